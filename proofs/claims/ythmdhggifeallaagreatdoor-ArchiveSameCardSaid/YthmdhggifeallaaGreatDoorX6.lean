import Derived.Test.YthmdhggifeallaaGreatDoorX1
import Derived.Test.YthmdhggifeallaaGreatDoorX2
import Derived.Test.YthmdhggifeallaaGreatDoorX3
import Derived.Test.YthmdhggifeallaaGreatDoorX4
import Derived.Test.YthmdhggifeallaaGreatDoorX5
import Derived.Test.YthmdhggifeallaaGreatDoorProg
import Derived.OpenShut
import Derived.ChangeAt
import Derived.ChangeSlices
import Derived.Deep.Slices
import Derived.Test.YthmdhggifeallaaGreatDoorRows
import Derived.ChangeVars
import Derived.LaidLaws
import Derived.LaidHandle
import Derived.Below
set_option linter.unusedVariables false
set_option linter.unusedSimpArgs false
set_option linter.unusedSectionVars false
/-! errors.As and errors.Is at an archive's errors: the walks. -/
set_option maxRecDepth 20000
namespace Go.Proofs
open Go.Eng Go.RowKit Go.Extern.Stop Go.Stop Go.Extern

noncomputable def missB (want : Array (String × TypeId)) (t : TypeId) : Bool := match Tryz.prog.info? t with
  | some i => !(lacking want i.methods).isEmpty
  | none => false
noncomputable def haveB (want : Array (String × TypeId)) (t : TypeId) : Bool := match Tryz.prog.info? t with
  | some i => (Instr.missingMethod want i.methods).isNone
  | none => false
theorem asI_no {want : Array (String × TypeId)} {t : TypeId} {u : Value} {k : Bool → Pr} {w : World} (h : missB want t = true) (hk : k false w) : asI Tryz.prog want (.iface t u) true k w := by
  unfold missB at h
  split at h
  · rename_i i hi
    obtain ⟨m, hm⟩ := missingMethod_some (want := want) (got := i.methods) (by intro he; rw [he] at h; cases h)
    exact ⟨false, .inr ⟨rfl, rfl, .inr ⟨t, u, i, m, rfl, hi, hm⟩⟩, hk⟩
  · cases h
theorem asI_yes {want : Array (String × TypeId)} {t : TypeId} {u : Value} {k : Bool → Pr} {w : World} {ok : Bool} (h : haveB want t = true) (hk : k true w) : asI Tryz.prog want (.iface t u) ok k w := by
  unfold haveB at h
  split at h
  · rename_i i hi
    exact ⟨true, .inl ⟨rfl, t, u, i, rfl, hi, Option.isNone_iff_eq_none.1 h⟩, hk⟩
  · cases h
theorem cell_gro {w w' : World} {v : Value} (h : Grow w w') (hc : w.cell? ⟨0, 0, none⟩ = some v) : w'.cell? ⟨0, 0, none⟩ = some v := by
  rw [cell_of_heap (h.same 0 (World.block_lt_of_cell? w _ hc) (fun h => h))]
  exact hc
theorem mUnwrap_96 {eb : Nat} {at' n : Int} {k : Value → Pr} {w : World} (hb : Box w eb [.int .i64 at', .iface 34 (.int .i64 n)]) (h : k (.iface 34 (.int .i64 n)) w) : callM Tryz.prog (.iface 96 (.pointer (some ⟨eb, 0, none⟩))) "Unwrap" [] [.c .any] k w := by
  refine ⟨96, _, 126, _, rfl, rl_mUnwrap _ w, .inl ⟨by kernel_rfl, ?_⟩⟩
  refine F126_calls (some ⟨eb, 0, none⟩) k w ?_
  unfold F126
  simp only [deref_some']
  exact hb.ld (s := .any) (p := .iface 34 (.int .i64 n)) (i := 1) rfl h

section
variable {w0 W : World} {L : List HA}
theorem v79_107 {t : Addr} {k : (Option Addr) × Value × Int → Pr} (s : St noF w0 W L) (hk : ∀ b W', St noF w0 W' (BoxA b [.pointer (some t)] :: L) → k (some ⟨1, 107, none⟩, .pointer (some ⟨b, 0, none⟩), 150) W') :
    callE Tryz.prog 79 [.iface 107 (.pointer (some t))] [.agg [.ptr, .any, .int .u64]] k W := by
  refine callE_of _ (e79_107 t W) ?_
  show nw (.cells #[.pointer (some t)] 107) (fun b => k (some ⟨1, 107, none⟩, .pointer (some ⟨b, 0, none⟩), 150)) W
  exact St.nw s fun b W' s' _ _ => hk b W' s'
theorem v79_108 {t : Addr} {k : (Option Addr) × Value × Int → Pr} (s : St noF w0 W L) (hk : ∀ b W', St noF w0 W' (BoxA b [.pointer (some t)] :: L) → k (some ⟨1, 108, none⟩, .pointer (some ⟨b, 0, none⟩), 150) W') :
    callE Tryz.prog 79 [.iface 108 (.pointer (some t))] [.agg [.ptr, .any, .int .u64]] k W := by
  refine callE_of _ (e79_108 t W) ?_
  show nw (.cells #[.pointer (some t)] 108) (fun b => k (some ⟨1, 108, none⟩, .pointer (some ⟨b, 0, none⟩), 150)) W
  exact St.nw s fun b W' s' _ _ => hk b W' s'
theorem v79_96 {t : Addr} {k : (Option Addr) × Value × Int → Pr} (s : St noF w0 W L) (hk : ∀ b W', St noF w0 W' (BoxA b [.pointer (some t)] :: L) → k (some ⟨1, 96, none⟩, .pointer (some ⟨b, 0, none⟩), 150) W') :
    callE Tryz.prog 79 [.iface 96 (.pointer (some t))] [.agg [.ptr, .any, .int .u64]] k W := by
  refine callE_of _ (e79_96 t W) ?_
  show nw (.cells #[.pointer (some t)] 96) (fun b => k (some ⟨1, 96, none⟩, .pointer (some ⟨b, 0, none⟩), 150)) W
  exact St.nw s fun b W' s' _ _ => hk b W' s'
theorem v79_34 {n : Int} {k : (Option Addr) × Value × Int → Pr} (s : St noF w0 W L) (hk : ∀ b W', St noF w0 W' (BoxA b [.int .i64 n] :: L) → k (some ⟨1, 34, none⟩, .pointer (some ⟨b, 0, none⟩), 130) W') :
    callE Tryz.prog 79 [.iface 34 (.int .i64 n)] [.agg [.ptr, .any, .int .u64]] k W := by
  refine callE_of _ (e79_34 n W) ?_
  show nw (.cells #[.int .i64 n] 34) (fun b => k (some ⟨1, 34, none⟩, .pointer (some ⟨b, 0, none⟩), 130)) W
  exact St.nw s fun b W' s' _ _ => hk b W' s'
theorem v97_96 {ta b : Nat} {e : Addr} {old : Value} {k : Unit → Pr} (s : St noF w0 W (BoxA ta [old] :: BoxA b [.pointer (some e)] :: L)) (hk : ∀ W', St noF w0 W' (BoxA ta [.pointer (some e)] :: BoxA b [.pointer (some e)] :: L) → k () W') :
    callE Tryz.prog 97 [vv 96 ⟨ta, 0, none⟩ 406, vv 96 ⟨b, 0, none⟩ 150] [] k W := by
  obtain ⟨h1, h2, h3, h4⟩ := s.st (i := 0) (v := .pointer (some e)) (k := k ()) (by simp) trivial fun W' s' => hk W' s'
  exact callE_of () (e97_96 ⟨ta, 0, none⟩ ⟨b, 0, none⟩ e old W (s.bring 1).box.cell0 s.box.cell0 h3) h4
theorem v97_34 {ta b : Nat} {n : Int} {old : Value} {k : Unit → Pr} (s : St noF w0 W (BoxA ta [old] :: BoxA b [.int .i64 n] :: L)) (hk : ∀ W', St noF w0 W' (BoxA ta [.int .i64 n] :: BoxA b [.int .i64 n] :: L) → k () W') :
    callE Tryz.prog 97 [vv 34 ⟨ta, 0, none⟩ 386, vv 34 ⟨b, 0, none⟩ 130] [] k W := by
  obtain ⟨h1, h2, h3, h4⟩ := s.st (i := 0) (v := .int .i64 n) (k := k ()) (by simp) trivial fun W' s' => hk W' s'
  exact callE_of () (e97_34 ⟨ta, 0, none⟩ ⟨b, 0, none⟩ n old W (s.bring 1).box.cell0 s.box.cell0 h3) h4

/-- errors.as, at a fault and a *api.Fault -/
theorem as82_107 {ta eb vb : Nat} {old : Value} {k : Bool → Pr} (s : St noF w0 W (BoxA ta [old] :: BoxA vb [.pointer (some ⟨ta, 0, none⟩)] :: L)) (hk : ∀ W' T, St noF w0 W' (BoxA ta [.pointer (some ⟨eb, 0, none⟩)] :: L ++ T) → k true W') :
    callF Tryz.prog 82 [.iface 96 (.pointer (some ⟨eb, 0, none⟩)), .iface 107 (.pointer (some ⟨ta, 0, none⟩)), vv 107 ⟨vb, 0, none⟩ 150, tyV 96] [.c .bool] k W := by
  refine F82_calls (.iface 96 (.pointer (some ⟨eb, 0, none⟩))) (.iface 107 (.pointer (some ⟨ta, 0, none⟩))) (some ⟨1, 107, none⟩) (.pointer (some ⟨vb, 0, none⟩)) 150 (tyV 96) k W ?_
  unfold F82
  simp only [deref_some']
  refine St.nw s fun r w1 s1 _ _ => ?_
  refine loop_of (fun z W => z = .iface 96 (.pointer (some ⟨eb, 0, none⟩)) ∧ St noF w0 W (BoxA r [.pointer (some ⟨1, 107, none⟩), .pointer (some ⟨vb, 0, none⟩), .int .u64 150] :: BoxA ta [old] :: BoxA vb [.pointer (some ⟨ta, 0, none⟩)] :: L)) (fun _ _ => 0) ⟨rfl, s1⟩ ?_
  rintro _ W2 ⟨rfl, s2⟩
  refine callE_of (tyV 96) (e83_96 _ _) (mAs_9696 ?_)
  refine br_of (fun _ => ?_) fun h => by cases h
  refine Box.ldA (l := [.ptr, .any, .int .u64]) (p := (some ⟨1, 107, none⟩, .pointer (some ⟨vb, 0, none⟩), 150)) s2.box ?_
  refine callE_of _ (e96_107 ⟨vb, 0, none⟩ ⟨ta, 0, none⟩ _ (s2.bring 2).box.cell0) ?_
  refine v79_96 s2 fun b w3 s3 => ?_
  refine v97_96 (old := old) (s3.sel [2, 0, 1, 3] 4) fun w4 s4 => ?_
  refine hk w4 [BoxA b [.pointer (some ⟨eb, 0, none⟩)], BoxA r [.pointer (some ⟨1, 107, none⟩), .pointer (some ⟨vb, 0, none⟩), .int .u64 150], BoxA vb [.pointer (some ⟨ta, 0, none⟩)]] ?_
  have s5 := s4.perm (m := BoxA ta [.pointer (some ⟨eb, 0, none⟩)] :: (L ++ [BoxA b [.pointer (some ⟨eb, 0, none⟩)], BoxA r [.pointer (some ⟨1, 107, none⟩), .pointer (some ⟨vb, 0, none⟩), .int .u64 150], BoxA vb [.pointer (some ⟨ta, 0, none⟩)]])) (List.Perm.cons _ (List.perm_append_comm (l₁ := [_, _, _])))
  exact s5

/-- errors.as, at a fault and a *api.Errno -/
theorem as82_108 {ta eb vb : Nat} {at' n : Int} {old : Value} {k : Bool → Pr} (s : St noF w0 W (BoxA ta [old] :: BoxA vb [.pointer (some ⟨ta, 0, none⟩)] :: BadA eb at' n :: L)) (hk : ∀ W' T, St noF w0 W' (BoxA ta [.int .i64 n] :: BadA eb at' n :: L ++ T) → k true W') :
    callF Tryz.prog 82 [.iface 96 (.pointer (some ⟨eb, 0, none⟩)), .iface 108 (.pointer (some ⟨ta, 0, none⟩)), vv 108 ⟨vb, 0, none⟩ 150, tyV 34] [.c .bool] k W := by
  refine F82_calls (.iface 96 (.pointer (some ⟨eb, 0, none⟩))) (.iface 108 (.pointer (some ⟨ta, 0, none⟩))) (some ⟨1, 108, none⟩) (.pointer (some ⟨vb, 0, none⟩)) 150 (tyV 34) k W ?_
  unfold F82
  simp only [deref_some']
  refine St.nw s fun r w1 s1 _ _ => ?_
  refine loop_of (fun z W => (z = .iface 96 (.pointer (some ⟨eb, 0, none⟩)) ∨ z = .iface 34 (.int .i64 n)) ∧ St noF w0 W (BoxA r [.pointer (some ⟨1, 108, none⟩), .pointer (some ⟨vb, 0, none⟩), .int .u64 150] :: BoxA ta [old] :: BoxA vb [.pointer (some ⟨ta, 0, none⟩)] :: BadA eb at' n :: L)) (fun z _ => match z with | .iface 96 _ => 1 | _ => 0) ⟨.inl rfl, s1⟩ ?_
  rintro _ W2 ⟨rfl | rfl, s2⟩
  · refine callE_of (tyV 96) (e83_96 _ _) (mAs_9634 ?_)
    refine br_of (fun h => by cases h) fun _ => ?_
    refine asI_no (by kernel_rfl) ?_
    refine jn_of (fun s' W' => s' = false ∧ W' = W2) (br_of (fun h => by cases h) fun _ => ⟨rfl, rfl⟩) ?_
    rintro _ _ ⟨rfl, rfl⟩
    refine br_of (fun h => by cases h) fun _ => ?_
    refine asI_yes (by kernel_rfl) ?_
    refine br_of (fun _ => ?_) fun h => by cases h
    refine mUnwrap_96 (s2.bring 3).box ⟨trivial, ?_⟩
    refine br_of (fun h => by cases h) fun _ => ?_
    exact ⟨⟨.inr rfl, s2⟩, Nat.zero_lt_one⟩
  · refine callE_of (tyV 34) (e83_34 _ _) (mAs_3434 ?_)
    refine br_of (fun _ => ?_) fun h => by cases h
    refine Box.ldA (l := [.ptr, .any, .int .u64]) (p := (some ⟨1, 108, none⟩, .pointer (some ⟨vb, 0, none⟩), 150)) s2.box ?_
    refine callE_of _ (e96_108 ⟨vb, 0, none⟩ ⟨ta, 0, none⟩ _ (s2.bring 2).box.cell0) ?_
    refine v79_34 s2 fun b w3 s3 => ?_
    refine v97_34 (old := old) (s3.sel [2, 0, 1, 3, 4] 5) fun w4 s4 => ?_
    refine hk w4 [BoxA b [.int .i64 n], BoxA r [.pointer (some ⟨1, 108, none⟩), .pointer (some ⟨vb, 0, none⟩), .int .u64 150], BoxA vb [.pointer (some ⟨ta, 0, none⟩)]] ?_
    have s5 := s4.perm (m := BoxA ta [.int .i64 n] :: ((BadA eb at' n :: L) ++ [BoxA b [.int .i64 n], BoxA r [.pointer (some ⟨1, 108, none⟩), .pointer (some ⟨vb, 0, none⟩), .int .u64 150], BoxA vb [.pointer (some ⟨ta, 0, none⟩)]])) (List.Perm.cons _ (List.perm_append_comm (l₁ := [_, _, _])))
    exact s5

/-- errors.As at a fault and a *api.Fault -/
theorem as55_107 {ta eb : Nat} {old : Value} {k : Bool → Pr} (hg : w0.cell? ⟨0, 0, none⟩ = some (tyV 31)) (s : St noF w0 W (BoxA ta [old] :: L)) (hk : ∀ W' T, St noF w0 W' (BoxA ta [.pointer (some ⟨eb, 0, none⟩)] :: L ++ T) → k true W') :
    callF Tryz.prog 55 [.iface 96 (.pointer (some ⟨eb, 0, none⟩)), .iface 107 (.pointer (some ⟨ta, 0, none⟩))] [.c .bool] k W := by
  refine F55_calls (.iface 96 (.pointer (some ⟨eb, 0, none⟩))) (.iface 107 (.pointer (some ⟨ta, 0, none⟩))) k W ?_
  unfold F55
  simp only [deref_some']
  refine ⟨trivial, br_of (fun h => by cases h) fun _ => ?_⟩
  refine jn_of (fun _ W' => W' = W) ⟨trivial, br_of (fun h => by cases h) fun _ => rfl⟩ ?_
  rintro _ _ rfl
  refine v79_107 s fun b w1 s1 => ?_
  refine St.nw s1 fun r w2 s2 _ _ => s2.st (i := 0) (by simp) trivial fun w3 s3 => s3.st (i := 1) (by simp) trivial fun w4 s4 => s4.st (i := 2) (by simp) trivial fun w5 s5 => ?_
  have s5 : St noF w0 w5 (BoxA r [.pointer (some ⟨1, 107, none⟩), .pointer (some ⟨b, 0, none⟩), .int .u64 150] :: BoxA b [.pointer (some ⟨ta, 0, none⟩)] :: BoxA ta [old] :: L) := s5
  refine Box.ldA (l := [.ptr, .any, .int .u64]) (p := (some ⟨1, 107, none⟩, .pointer (some ⟨b, 0, none⟩), 150)) s5.box ?_
  refine callE_of (tyV 107) (e80_107 _ _) ?_
  refine jn_of (fun _ W' => St noF w0 W' (BoxA r [.pointer (some ⟨1, 107, none⟩), .pointer (some ⟨b, 0, none⟩), .int .u64 150] :: BoxA b [.pointer (some ⟨ta, 0, none⟩)] :: BoxA ta [old] :: L)) ?_ ?_
  · refine jn_of (fun s' W' => s' = false ∧ St noF w0 W' (BoxA r [.pointer (some ⟨1, 107, none⟩), .pointer (some ⟨b, 0, none⟩), .int .u64 150] :: BoxA b [.pointer (some ⟨ta, 0, none⟩)] :: BoxA ta [old] :: L)) ?_ ?_
    · refine mKind_107 (br_of (fun h => by cases h) fun _ => ?_)
      refine Box.ldA (l := [.ptr, .any, .int .u64]) (p := (some ⟨1, 107, none⟩, .pointer (some ⟨b, 0, none⟩), 150)) s5.box ?_
      exact callE_of false (e81_107 ⟨b, 0, none⟩ _ _ (s5.bring 1).box.cell0) ⟨rfl, s5⟩
    · rintro _ W' ⟨rfl, s6⟩
      exact br_of (fun h => by cases h) fun _ => s6
  intro _ w6 s6
  refine mElem_107 ?_
  refine jn_of (fun _ W' => St noF w0 W' (BoxA r [.pointer (some ⟨1, 107, none⟩), .pointer (some ⟨b, 0, none⟩), .int .u64 150] :: BoxA b [.pointer (some ⟨ta, 0, none⟩)] :: BoxA ta [old] :: L)) ?_ ?_
  · refine jn_of (fun s' W' => s' = false ∧ St noF w0 W' (BoxA r [.pointer (some ⟨1, 107, none⟩), .pointer (some ⟨b, 0, none⟩), .int .u64 150] :: BoxA b [.pointer (some ⟨ta, 0, none⟩)] :: BoxA ta [old] :: L)) ?_ ?_
    · refine mKind_96 (br_of (fun _ => ?_) fun h => by cases h)
      refine ldC_of (s := .any) (p := tyV 31) (cell_gro s6.gro hg) ?_
      exact mImpl_96 ⟨rfl, s6⟩
    · rintro _ W' ⟨rfl, s7⟩
      exact br_of (fun h => by cases h) fun _ => s7
  intro _ w7 s7
  refine Box.ldA (l := [.ptr, .any, .int .u64]) (p := (some ⟨1, 107, none⟩, .pointer (some ⟨b, 0, none⟩), 150)) s7.box ?_
  refine as82_107 (s7.sel [2, 1, 0] 3) fun W' T s' => ?_
  refine hk W' (BoxA r [.pointer (some ⟨1, 107, none⟩), .pointer (some ⟨b, 0, none⟩), .int .u64 150] :: T) ?_
  have s8 : St noF w0 W' (BoxA ta [.pointer (some ⟨eb, 0, none⟩)] :: BoxA r [.pointer (some ⟨1, 107, none⟩), .pointer (some ⟨b, 0, none⟩), .int .u64 150] :: (L ++ T)) := s'
  exact s8.perm (List.Perm.cons _ List.perm_middle.symm)

/-- errors.As at a fault and a *api.Errno -/
theorem as55_108 {ta eb : Nat} {at' n : Int} {old : Value} {k : Bool → Pr} (hg : w0.cell? ⟨0, 0, none⟩ = some (tyV 31)) (s : St noF w0 W (BoxA ta [old] :: BadA eb at' n :: L)) (hk : ∀ W' T, St noF w0 W' (BoxA ta [.int .i64 n] :: BadA eb at' n :: L ++ T) → k true W') :
    callF Tryz.prog 55 [.iface 96 (.pointer (some ⟨eb, 0, none⟩)), .iface 108 (.pointer (some ⟨ta, 0, none⟩))] [.c .bool] k W := by
  refine F55_calls (.iface 96 (.pointer (some ⟨eb, 0, none⟩))) (.iface 108 (.pointer (some ⟨ta, 0, none⟩))) k W ?_
  unfold F55
  simp only [deref_some']
  refine ⟨trivial, br_of (fun h => by cases h) fun _ => ?_⟩
  refine jn_of (fun _ W' => W' = W) ⟨trivial, br_of (fun h => by cases h) fun _ => rfl⟩ ?_
  rintro _ _ rfl
  refine v79_108 s fun b w1 s1 => ?_
  refine St.nw s1 fun r w2 s2 _ _ => s2.st (i := 0) (by simp) trivial fun w3 s3 => s3.st (i := 1) (by simp) trivial fun w4 s4 => s4.st (i := 2) (by simp) trivial fun w5 s5 => ?_
  have s5 : St noF w0 w5 (BoxA r [.pointer (some ⟨1, 108, none⟩), .pointer (some ⟨b, 0, none⟩), .int .u64 150] :: BoxA b [.pointer (some ⟨ta, 0, none⟩)] :: BoxA ta [old] :: BadA eb at' n :: L) := s5
  refine Box.ldA (l := [.ptr, .any, .int .u64]) (p := (some ⟨1, 108, none⟩, .pointer (some ⟨b, 0, none⟩), 150)) s5.box ?_
  refine callE_of (tyV 108) (e80_108 _ _) ?_
  refine jn_of (fun _ W' => St noF w0 W' (BoxA r [.pointer (some ⟨1, 108, none⟩), .pointer (some ⟨b, 0, none⟩), .int .u64 150] :: BoxA b [.pointer (some ⟨ta, 0, none⟩)] :: BoxA ta [old] :: BadA eb at' n :: L)) ?_ ?_
  · refine jn_of (fun s' W' => s' = false ∧ St noF w0 W' (BoxA r [.pointer (some ⟨1, 108, none⟩), .pointer (some ⟨b, 0, none⟩), .int .u64 150] :: BoxA b [.pointer (some ⟨ta, 0, none⟩)] :: BoxA ta [old] :: BadA eb at' n :: L)) ?_ ?_
    · refine mKind_108 (br_of (fun h => by cases h) fun _ => ?_)
      refine Box.ldA (l := [.ptr, .any, .int .u64]) (p := (some ⟨1, 108, none⟩, .pointer (some ⟨b, 0, none⟩), 150)) s5.box ?_
      exact callE_of false (e81_108 ⟨b, 0, none⟩ _ _ (s5.bring 1).box.cell0) ⟨rfl, s5⟩
    · rintro _ W' ⟨rfl, s6⟩
      exact br_of (fun h => by cases h) fun _ => s6
  intro _ w6 s6
  refine mElem_108 ?_
  refine jn_of (fun _ W' => St noF w0 W' (BoxA r [.pointer (some ⟨1, 108, none⟩), .pointer (some ⟨b, 0, none⟩), .int .u64 150] :: BoxA b [.pointer (some ⟨ta, 0, none⟩)] :: BoxA ta [old] :: BadA eb at' n :: L)) ?_ ?_
  · refine jn_of (fun s' W' => s' = false ∧ St noF w0 W' (BoxA r [.pointer (some ⟨1, 108, none⟩), .pointer (some ⟨b, 0, none⟩), .int .u64 150] :: BoxA b [.pointer (some ⟨ta, 0, none⟩)] :: BoxA ta [old] :: BadA eb at' n :: L)) ?_ ?_
    · refine mKind_34 (br_of (fun _ => ?_) fun h => by cases h)
      refine ldC_of (s := .any) (p := tyV 31) (cell_gro s6.gro hg) ?_
      exact mImpl_34 ⟨rfl, s6⟩
    · rintro _ W' ⟨rfl, s7⟩
      exact br_of (fun h => by cases h) fun _ => s7
  intro _ w7 s7
  refine Box.ldA (l := [.ptr, .any, .int .u64]) (p := (some ⟨1, 108, none⟩, .pointer (some ⟨b, 0, none⟩), 150)) s7.box ?_
  refine as82_108 (s7.sel [2, 1, 3, 0] 4) fun W' T s' => ?_
  refine hk W' (BoxA r [.pointer (some ⟨1, 108, none⟩), .pointer (some ⟨b, 0, none⟩), .int .u64 150] :: T) ?_
  have s8 : St noF w0 W' (BoxA ta [.int .i64 n] :: BadA eb at' n :: BoxA r [.pointer (some ⟨1, 108, none⟩), .pointer (some ⟨b, 0, none⟩), .int .u64 150] :: (L ++ T)) := s'
  exact s8.perm (List.Perm.cons _ (List.Perm.cons _ List.perm_middle.symm))
end
end Go.Proofs

/-! errors.Is; what an error says. -/
set_option maxRecDepth 20000
namespace Go.Proofs
open Go.Eng Go.RowKit Go.Extern.Stop Go.Stop Go.Extern

theorem comp34 : (match Tryz.prog.info? 34 with | some i => i.comparable | none => false) = true := by kernel_rfl
theorem ceqI_34 {a c : Int} {k : Bool → Pr} {w : World} (h : k (a == c) w) : ceqI Tryz.prog (.iface 34 (.int .i64 a)) (.iface 34 (.int .i64 c)) k w := by
  have hc := comp34
  split at hc
  · rename_i i hi
    exact ⟨34, _, 34, _, rfl, rfl, (a == c), .inr ⟨rfl, i, .i64, a, c, hi, hc, Tryz.underlying34, rfl, rfl, rfl⟩, h⟩
  · cases hc
theorem ceqI_96 {u v : Value} {k : Bool → Pr} {w : World} (h : k false w) : ceqI Tryz.prog (.iface 96 u) (.iface 34 v) k w :=
  ⟨96, u, 34, v, rfl, rfl, false, .inl ⟨by decide, rfl⟩, h⟩

section
variable {w0 W : World} {L : List HA}
theorem is84 {eb : Nat} {at' n : Int} {k : Bool → Pr} (s : St noF w0 W (BadA eb at' n :: L)) (hk : ∀ W', St noF w0 W' (BadA eb at' n :: L) → k true W') :
    callF Tryz.prog 84 [.iface 96 (.pointer (some ⟨eb, 0, none⟩)), .iface 34 (.int .i64 n), .bool true] [.c .bool] k W := by
  refine F84_calls (.iface 96 (.pointer (some ⟨eb, 0, none⟩))) (.iface 34 (.int .i64 n)) true k W ?_
  unfold F84
  simp only [deref_some']
  refine loop_of (fun z W => (z = .iface 96 (.pointer (some ⟨eb, 0, none⟩)) ∨ z = .iface 34 (.int .i64 n)) ∧ St noF w0 W (BadA eb at' n :: L)) (fun z _ => match z with | .iface 96 _ => 1 | _ => 0) ⟨.inl rfl, s⟩ ?_
  rintro _ W2 ⟨rfl | rfl, s2⟩
  · refine jn_of (fun s' W' => s' = false ∧ St noF w0 W' (BadA eb at' n :: L)) (br_of (fun _ => ceqI_96 ⟨rfl, s2⟩) fun h => by cases h) ?_
    rintro _ W3 ⟨rfl, s3⟩
    refine br_of (fun h => by cases h) fun _ => ?_
    refine asI_no (by kernel_rfl) ?_
    refine jn_of (fun s' W' => s' = false ∧ St noF w0 W' (BadA eb at' n :: L)) (br_of (fun h => by cases h) fun _ => ⟨rfl, s3⟩) ?_
    rintro _ W4 ⟨rfl, s4⟩
    refine br_of (fun h => by cases h) fun _ => ?_
    refine asI_yes (by kernel_rfl) ?_
    refine br_of (fun _ => ?_) fun h => by cases h
    refine mUnwrap_96 s4.box ⟨trivial, ?_⟩
    refine br_of (fun h => by cases h) fun _ => ?_
    exact ⟨⟨.inr rfl, s4⟩, Nat.zero_lt_one⟩
  · refine jn_of (fun s' W' => s' = true ∧ St noF w0 W' (BadA eb at' n :: L)) (br_of (fun _ => ceqI_34 ⟨by simp, s2⟩) fun h => by cases h) ?_
    rintro _ W3 ⟨rfl, s3⟩
    exact br_of (fun _ => hk W3 s3) fun h => by cases h

theorem is56 {eb : Nat} {at' n : Int} {k : Bool → Pr} (s : St noF w0 W (BadA eb at' n :: L)) (hk : ∀ W', St noF w0 W' (BadA eb at' n :: L) → k true W') :
    callF Tryz.prog 56 [.iface 96 (.pointer (some ⟨eb, 0, none⟩)), .iface 34 (.int .i64 n)] [.c .bool] k W := by
  refine F56_calls (.iface 96 (.pointer (some ⟨eb, 0, none⟩))) (.iface 34 (.int .i64 n)) k W ?_
  unfold F56
  refine jn_of (fun s' W' => s' = false ∧ St noF w0 W' (BadA eb at' n :: L)) ⟨trivial, br_of (fun h => by cases h) fun _ => ⟨trivial, rfl, s⟩⟩ ?_
  rintro _ W3 ⟨rfl, s3⟩
  refine br_of (fun h => by cases h) fun _ => ?_
  refine callE_of (tyV 34) (e83_34 _ _) (mComp_34 ?_)
  exact is84 s3 hk

/-- what is said of an error -/
theorem seen29_nil {k : (Int × Int) × Bool → Pr} (s : St noF w0 W L) (hk : ∀ W', St noF w0 W' L → k ((0, 0), true) W') : callF Tryz.prog 29 [.nilIface] [.agg [.int .i64, .int .i64], .c .bool] k W := by
  refine F29_calls .nilIface k W ?_
  unfold F29
  simp only [deref_some']
  refine St.nw s fun r w1 s1 _ _ => ⟨trivial, br_of (fun _ => ?_) fun h => by cases h⟩
  refine s1.st (i := 0) (by simp) trivial fun w2 s2 => s2.st (i := 1) (by simp) trivial fun w3 s3 => ?_
  refine Box.ldA (l := [.int .i64, .int .i64]) (p := (0, 0)) s3.box ?_
  exact hk w3 s3.drop

theorem seen29 {eb : Nat} {at' n : Int} {k : (Int × Int) × Bool → Pr} (hg : w0.cell? ⟨0, 0, none⟩ = some (tyV 31)) (hn : n ≠ 0) (s : St noF w0 W (BadA eb at' n :: L)) (hk : ∀ W', St noF w0 W' (BadA eb at' n :: L) → k ((at', n), true) W') :
    callF Tryz.prog 29 [.iface 96 (.pointer (some ⟨eb, 0, none⟩))] [.agg [.int .i64, .int .i64], .c .bool] k W := by
  refine F29_calls (.iface 96 (.pointer (some ⟨eb, 0, none⟩))) k W ?_
  unfold F29
  simp only [deref_some']
  refine St.nw s fun r w1 s1 _ _ => ⟨trivial, br_of (fun h => by cases h) fun _ => ⟨trivial, St.nw s1 fun r1 w2 s2 _ _ => ⟨trivial, St.nw s2 fun r2 w3 s3 _ _ => ?_⟩⟩⟩
  have s3 : St noF w0 w3 (BoxA r1 [.pointer none] :: BoxA r2 [.int .i64 0] :: BadA eb at' n :: BoxA r [.int .i64 0, .int .i64 0] :: L) := s3.sel [1, 0, 3, 2] 4
  refine jn_of (fun s' W' => s' = false ∧ ∃ T, St noF w0 W' (BoxA r1 [.pointer (some ⟨eb, 0, none⟩)] :: BoxA r2 [.int .i64 n] :: BadA eb at' n :: BoxA r [.int .i64 0, .int .i64 0] :: (L ++ T))) ?_ ?_
  · refine as55_107 hg s3 fun w4 T s4 => ?_
    refine br_of (fun h => by cases h) fun _ => ?_
    have s4 : St noF w0 w4 (BoxA r1 [.pointer (some ⟨eb, 0, none⟩)] :: BoxA r2 [.int .i64 0] :: BadA eb at' n :: BoxA r [.int .i64 0, .int .i64 0] :: (L ++ T)) := s4
    refine s4.ld0 (s := .ptr) (p := some ⟨eb, 0, none⟩) rfl ⟨trivial, ?_⟩
    refine br_of (fun h => by cases h) fun _ => ?_
    refine as55_108 hg (s4.sel [1, 2, 0, 3] 4) fun w5 T2 s5 => ?_
    refine br_of (fun h => by cases h) fun _ => ?_
    have s5 : St noF w0 w5 (BoxA r2 [.int .i64 n] :: BadA eb at' n :: BoxA r1 [.pointer (some ⟨eb, 0, none⟩)] :: BoxA r [.int .i64 0, .int .i64 0] :: (L ++ T ++ T2)) := s5
    refine s5.ld0 (s := .int .i64) (p := n) rfl ?_
    refine br_of (fun h => absurd (by simpa using h) hn) fun _ => ?_
    refine s5.ld0 (s := .int .i64) (p := n) rfl ?_
    refine is56 (s5.bring 1) fun w6 s6 => ⟨rfl, T ++ T2, ?_⟩
    have s6 := s6.sel [2, 1, 0, 3] 4
    rw [← List.append_assoc]
    exact s6
  · rintro _ W' ⟨rfl, T, s6⟩
    refine br_of (fun h => by cases h) fun _ => ?_
    rw [drw_def]
    have s7 := s6.drew
    refine s7.ld0 (s := .ptr) (p := some ⟨eb, 0, none⟩) rfl ?_
    simp only [deref_some']
    refine (s7.bring 2).ld (i := 0) (s := .int .i64) (p := at') rfl ?_
    refine (s7.bring 1).ld0 (s := .int .i64) (p := n) rfl ?_
    refine (s7.bring 3).st (i := 0) (by simp) trivial fun w8 s8 => s8.st (i := 1) (by simp) trivial fun w9 s9 => ?_
    refine Box.ldA (l := [.int .i64, .int .i64]) (p := (at', n)) s9.box ?_
    refine hk w9 ?_
    have s10 : St noF w0 w9 ((BadA eb at' n :: L) ++ (BoxA r [.int .i64 at', .int .i64 n] :: BoxA r1 [.pointer (some ⟨eb, 0, none⟩)] :: BoxA r2 [.int .i64 n] :: T)) := by
      have s11 : St noF w0 w9 (BadA eb at' n :: BoxA r [.int .i64 at', .int .i64 n] :: BoxA r1 [.pointer (some ⟨eb, 0, none⟩)] :: BoxA r2 [.int .i64 n] :: (L ++ T)) := s9.sel [3, 0, 1, 2] 4
      refine s11.perm (List.Perm.cons _ ?_)
      have : ([BoxA r [.int .i64 at', .int .i64 n], BoxA r1 [.pointer (some ⟨eb, 0, none⟩)], BoxA r2 [.int .i64 n]] ++ (L ++ T)).Perm (L ++ ([BoxA r [.int .i64 at', .int .i64 n], BoxA r1 [.pointer (some ⟨eb, 0, none⟩)], BoxA r2 [.int .i64 n]] ++ T)) := by
        rw [← List.append_assoc, ← List.append_assoc]
        exact List.Perm.append_right T List.perm_append_comm
      exact this
    exact s10.dropR

/-- is an error what it must be? -/
theorem is13_nil {e n : Int} {k : Bool → Pr} (s : St noF w0 W L) (hk : ∀ W', St noF w0 W' L → k (decide ((0, 0) = (e, n))) W') : callF Tryz.prog 13 [.nilIface, .agg #[.int .i64 e, .int .i64 n]] [.c .bool] k W := by
  refine F13_calls .nilIface e n k W ?_
  unfold F13
  simp only [deref_some']
  refine St.nw s fun r w1 s1 _ _ => seen29_nil s1 fun w2 s2 => ?_
  refine St.nw s2 fun r1 w3 s3 _ _ => s3.st (i := 0) (by simp) trivial fun w4 s4 => s4.st (i := 1) (by simp) trivial fun w5 s5 => ?_
  refine br_of (fun _ => ?_) fun h => by cases h
  refine Box.ldA (l := [.int .i64, .int .i64]) (p := (0, 0)) s5.box ?_
  refine Box.ldA (l := [.int .i64, .int .i64]) (p := (e, n)) (s5.bring 1).box ?_
  have h := hk w5 s5.drop.drop
  have e' : decide (((0 : Int), (0 : Int)) = (e, n)) = ((0 : Int) == e && ((0 : Int) == n && true)) := by
    rw [Bool.eq_iff_iff]; simp
  rw [e'] at h
  exact h
theorem is13 {eb : Nat} {at' n e n' : Int} {k : Bool → Pr} (hg : w0.cell? ⟨0, 0, none⟩ = some (tyV 31)) (hn : n ≠ 0) (s : St noF w0 W (BadA eb at' n :: L)) (hk : ∀ W', St noF w0 W' (BadA eb at' n :: L) → k (decide ((at', n) = (e, n'))) W') :
    callF Tryz.prog 13 [.iface 96 (.pointer (some ⟨eb, 0, none⟩)), .agg #[.int .i64 e, .int .i64 n']] [.c .bool] k W := by
  refine F13_calls (.iface 96 (.pointer (some ⟨eb, 0, none⟩))) e n' k W ?_
  unfold F13
  simp only [deref_some']
  refine St.nw s fun r w1 s1 _ _ => seen29 hg hn (s1.bring 1) fun w2 s2 => ?_
  refine St.nw s2 fun r1 w3 s3 _ _ => s3.st (i := 0) (by simp) trivial fun w4 s4 => s4.st (i := 1) (by simp) trivial fun w5 s5 => ?_
  refine br_of (fun _ => ?_) fun h => by cases h
  refine Box.ldA (l := [.int .i64, .int .i64]) (p := (at', n)) s5.box ?_
  refine Box.ldA (l := [.int .i64, .int .i64]) (p := (e, n')) (s5.bring 2).box ?_
  have h := hk w5 (s5.sel [1, 3] 4 |> fun s => by first | exact s | exact (s5.bring 2).drop.drop)
  have e' : decide ((at', n) = (e, n')) = (at' == e && (n == n' && true)) := by
    rw [Bool.eq_iff_iff]; simp
  rw [e'] at h
  exact h
end
end Go.Proofs

set_option maxRecDepth 100000
namespace Go.Proofs
open Go.Eng

/-! attic/atticlaw26.two -/
def an21 : An := (.sq .z (.sq .z .z))

def F21  (Q : Sl × Sl → Pr) : Pr :=
  nw (.cells #[(.slice none 0 0), (.slice none 0 0)] 25) fun r =>
  nw (.cells #[(.int .i64 1)] 3) fun r_1 =>
  nw (.cells #[(.int .u8 7)] 5) fun r_2 =>
  nw (.cells #[(.int .u8 7)] 5) fun r_3 =>
  nw (.cells #[(.int .i64 1), (.slice (some ⟨r_1, 0, none⟩) 1 1), (.slice (some ⟨r_2, 0, none⟩) 1 1), (.int .i64 1), (.slice none 0 0), (.slice (some ⟨r_3, 0, none⟩) 1 1)] 49) fun r_4 =>
  nw (.cells #[(.string (⟨#[97]⟩ : ByteArray)), (.int .i64 0)] 57) fun r_5 =>
  deref (some ⟨r, 0, none⟩) fun a =>
  st (a.add 0) (.slice (some ⟨r_4, 0, none⟩) 2 2) <|
  st (a.add 1) (.slice (some ⟨r_5, 0, none⟩) 1 1) <|
  deref (some ⟨r, 0, none⟩) fun a_1 =>
  ldA [.slice, .slice] a_1 fun (res : Sl × Sl) =>
  Q ((res.1, res.2))

theorem F21_calls  (Q : Sl × Sl → Pr) (w : World) (h : F21 Q w) : Calls Tryz.prog 21 #[] w (RetT [.agg [.slice, .slice]] Q) :=
  callsIn_of_compile (an := an21) (args := []) (shs := [.agg [.slice, .slice]]) Tryz.func21 (by
    have e : compileFn Tryz.prog Tryz.f21 an21 [] [.agg [.slice, .slice]] Q = F21 Q := by kernel_rfl
    rw [e]; exact h)

/-! attic/atticlaw26.begun -/
def an7 : An := (.sq .z (.sq .z (.sq (.sq (.jn [(24, .c .bool)] .z) (.br (.sq .z .z) .z)) (.sq .z (.sq .z (.sq .z .z))))))

def F7  (Q : Bool → Pr) : Pr :=
  callF Tryz.prog 21 [] [.agg [.slice, .slice]] fun (t7 : Sl × Sl) =>
  callF Tryz.prog 10 [(.agg #[(.slice t7.1.a t7.1.len t7.1.cap), (.slice t7.2.a t7.2.len t7.2.cap)])] [.c .slice, .c .any] fun (t8 : Sl × Value) =>
  jn (S := Bool) (fun R =>
  owe (isI t8.2) <|
  br (!isNilI t8.2) (
  R true) (
  br ((t8.1.len : Int) != 27) (
  R true) (
  slc 1 t8.1 (some 8) (some 22) none fun t20 =>
  nw (.cells #[(.int .u8 1), (.int .u8 1), (.int .u8 7), (.int .u8 2), (.int .u8 1), (.int .u8 0), (.int .u8 1), (.int .u8 2), (.int .u8 1), (.int .u8 0), (.int .u8 0), (.int .u8 1), (.int .u8 1), (.int .u8 97)] 5) fun r =>
  callF Tryz.prog 12 [(.slice t20.a t20.len t20.cap), (.slice (some ⟨r, 0, none⟩) 14 14)] [.c .bool] fun (t22 : Bool) =>
  R (!t22)))) fun s =>
  br s (
  Q false) (
  callF Tryz.prog 16 [(.slice t8.1.a t8.1.len t8.1.cap)] [.agg [.slice, .slice], .c .any] fun (t27 : (Sl × Sl) × Value) =>
  nw (.cells #[(.slice none 0 0), (.slice none 0 0)] 25) fun r_1 =>
  deref (some ⟨r_1, 0, none⟩) fun a =>
  st (a.add 0) (.slice t27.1.1.a t27.1.1.len t27.1.1.cap) <|
  st (a.add 1) (.slice t27.1.2.a t27.1.2.len t27.1.2.cap) <|
  slc 1 t8.1 none (some 11) none fun t32 =>
  callF Tryz.prog 16 [(.slice t32.a t32.len t32.cap)] [.agg [.slice, .slice], .c .any] fun (t33 : (Sl × Sl) × Value) =>
  nw (.cells #[(.slice none 0 0), (.slice none 0 0)] 25) fun r_2 =>
  deref (some ⟨r_2, 0, none⟩) fun a_1 =>
  st (a_1.add 0) (.slice t33.1.1.a t33.1.1.len t33.1.1.cap) <|
  st (a_1.add 1) (.slice t33.1.2.a t33.1.2.len t33.1.2.cap) <|
  drw <|
  owe (isI t27.2) <|
  both (
  br (isNilI t27.2) (
  deref (some ⟨r_1, 0, none⟩) fun a_2 =>
  ldA [.slice, .slice] a_2 fun (t39 : Sl × Sl) =>
  callF Tryz.prog 21 [] [.agg [.slice, .slice]] fun (t40 : Sl × Sl) =>
  callF Tryz.prog 14 [(.agg #[(.slice t39.1.a t39.1.len t39.1.cap), (.slice t39.2.a t39.2.len t39.2.cap)]), (.agg #[(.slice t40.1.a t40.1.len t40.1.cap), (.slice t40.2.a t40.2.len t40.2.cap)])] [.c .bool] fun (t41 : Bool) =>
  br t41 (
  callF Tryz.prog 13 [t33.2, (.agg #[(.int .i64 0), (.int .i64 260)])] [.c .bool] fun (t46 : Bool) =>
  Q t46) (
  Q false)) (
  Q false)) (
  br (isNilI t27.2) (
  callF Tryz.prog 21 [] [.agg [.slice, .slice]] fun (t40_1 : Sl × Sl) =>
  deref (some ⟨r_1, 0, none⟩) fun a_3 =>
  ldA [.slice, .slice] a_3 fun (t39_1 : Sl × Sl) =>
  callF Tryz.prog 14 [(.agg #[(.slice t39_1.1.a t39_1.1.len t39_1.1.cap), (.slice t39_1.2.a t39_1.2.len t39_1.2.cap)]), (.agg #[(.slice t40_1.1.a t40_1.1.len t40_1.1.cap), (.slice t40_1.2.a t40_1.2.len t40_1.2.cap)])] [.c .bool] fun (t41_1 : Bool) =>
  br t41_1 (
  callF Tryz.prog 13 [t33.2, (.agg #[(.int .i64 0), (.int .i64 260)])] [.c .bool] fun (t46_1 : Bool) =>
  Q t46_1) (
  Q false)) (
  Q false)))

theorem F7_calls  (Q : Bool → Pr) (w : World) (h : F7 Q w) : Calls Tryz.prog 7 #[] w (RetT [.c .bool] Q) :=
  callsIn_of_compile (an := an7) (args := []) (shs := [.c .bool]) Tryz.func7 (by
    have e : compileFn Tryz.prog Tryz.f7 an7 [] [.c .bool] Q = F7 Q := by kernel_rfl
    rw [e]; exact h)

/-! attic/atticlaw26.few -/
def an8 : An := (.sq .z (.sq .z (.sq (.sq .z (.bl (.lp [(3, .c (.int .i64)), (16, .c (.int .i64))] (.sq .z (.sq (.br .z .z) (.sq (.bl (.sq .z .z)) .z)))))) (.sq (.sq .z (.bl (.lp [(3, .c (.int .i64)), (41, .c (.int .i64))] (.sq .z (.sq (.br .z .z) (.sq (.bl (.sq .z .z)) .z)))))) (.sq .z .z)))))

def F8 (p0_0 : Sl) (p0_1 : Sl) (Q : Bool → Pr) : Pr :=
  nw (.cells #[(.slice p0_0.a p0_0.len p0_0.cap), (.slice p0_1.a p0_1.len p0_1.cap)] 25) fun r =>
  deref (some ⟨r, 0, none⟩) fun a =>
  deref (some (a.add 0)) fun a_1 =>
  ldC .slice a_1 fun (t9 : Sl) =>
  deref (some ⟨r, 0, none⟩) fun a_2 =>
  deref (some (a_2.add 0)) fun a_3 =>
  ldC .slice a_3 fun (t11 : Sl) =>
  slc 3 t9 none (some (imin (t11.len : Int) 300)) none fun t14 =>
  loopE (S := Int × Int) (fun X s =>
  br (decide (s.2 < (t14.len : Int))) (
  owe ((0 : Int) ≤ s.2 ∧ s.2 < (t14.len : Int)) <|
  deref t14.a fun a_4 =>
  deref (some (a_4.add (Int.toNat s.2 * 3))) fun a_5 =>
  ldA [(.int .i64), .slice, .slice] a_5 fun (t19 : Int × Sl × Sl) =>
  nw (.cells #[(.int .i64 0), (.slice none 0 0), (.slice none 0 0)] 49) fun r_1 =>
  deref (some ⟨r_1, 0, none⟩) fun a_6 =>
  st (a_6.add 0) (.int .i64 t19.1) <|
  st (a_6.add 1) (.slice t19.2.1.a t19.2.1.len t19.2.1.cap) <|
  st (a_6.add 2) (.slice t19.2.2.a t19.2.2.len t19.2.2.cap) <|
  deref (some ⟨r_1, 0, none⟩) fun a_7 =>
  deref (some (a_7.add 1)) fun a_8 =>
  ldC .slice a_8 fun (t22 : Sl) =>
  deref (some ⟨r_1, 0, none⟩) fun a_9 =>
  deref (some (a_9.add 2)) fun a_10 =>
  ldC .slice a_10 fun (t27 : Sl) =>
  X ((imin (IntKind.wrap .i64 ((IntKind.wrap .i64 (s.1 + (imin (t22.len : Int) 1048576))) + (imin (t27.len : Int) 1048576))) 1048576), (IntKind.wrap .i64 (s.2 + 1)))) (
  deref (some ⟨r, 0, none⟩) fun a_11 =>
  deref (some (a_11.add 1)) fun a_12 =>
  ldC .slice a_12 fun (t34 : Sl) =>
  deref (some ⟨r, 0, none⟩) fun a_13 =>
  deref (some (a_13.add 1)) fun a_14 =>
  ldC .slice a_14 fun (t36 : Sl) =>
  slc 2 t34 none (some (imin (t36.len : Int) 300)) none fun t39 =>
  loopE (S := Int × Int) (fun X_1 s_1 =>
  br (decide (s_1.2 < (t39.len : Int))) (
  owe ((0 : Int) ≤ s_1.2 ∧ s_1.2 < (t39.len : Int)) <|
  deref t39.a fun a_15 =>
  deref (some (a_15.add (Int.toNat s_1.2 * 2))) fun a_16 =>
  ldA [.str, (.int .i64)] a_16 fun (t44 : ByteArray × Int) =>
  nw (.cells #[(.string (⟨#[]⟩ : ByteArray)), (.int .i64 0)] 57) fun r_2 =>
  deref (some ⟨r_2, 0, none⟩) fun a_17 =>
  st (a_17.add 0) (.string t44.1) <|
  st (a_17.add 1) (.int .i64 t44.2) <|
  deref (some ⟨r_2, 0, none⟩) fun a_18 =>
  deref (some (a_18.add 0)) fun a_19 =>
  ldC .str a_19 fun (t47 : ByteArray) =>
  X_1 ((imin (IntKind.wrap .i64 (s_1.1 + (imin (t47.size : Int) 1048576))) 1048576), (IntKind.wrap .i64 (s_1.2 + 1)))) (
  deref (some ⟨r, 0, none⟩) fun a_20 =>
  deref (some (a_20.add 0)) fun a_21 =>
  ldC .slice a_21 fun (t54 : Sl) =>
  br (decide ((t54.len : Int) ≤ 100)) (
  deref (some ⟨r, 0, none⟩) fun a_22 =>
  deref (some (a_22.add 1)) fun a_23 =>
  ldC .slice a_23 fun (t59 : Sl) =>
  br (decide ((t59.len : Int) ≤ 100)) (
  Q ((decide (s_1.1 ≤ 20000)))) (
  Q false)) (
  Q false))) (s.1, 0))) (0, 0)

theorem F8_calls (p0_0 : Sl) (p0_1 : Sl) (Q : Bool → Pr) (w : World) (h : F8 p0_0 p0_1 Q w) : Calls Tryz.prog 8 #[(.agg #[(.slice p0_0.a p0_0.len p0_0.cap), (.slice p0_1.a p0_1.len p0_1.cap)])] w (RetT [.c .bool] Q) :=
  callsIn_of_compile (an := an8) (args := [(.agg #[(.slice p0_0.a p0_0.len p0_0.cap), (.slice p0_1.a p0_1.len p0_1.cap)])]) (shs := [.c .bool]) Tryz.func8 (by
    have e : compileFn Tryz.prog Tryz.f8 an8 [(.agg #[(.slice p0_0.a p0_0.len p0_0.cap), (.slice p0_1.a p0_1.len p0_1.cap)])] [.c .bool] Q = F8 p0_0 p0_1 Q := by kernel_rfl
    rw [e]; exact h)

/-! attic/atticlaw26.ArchivePacks -/
def an3 : An := (.sq .z (.sq (.sq (.jn [(14, .c .bool)] .z) (.br (.sq .z .z) .z)) (.sq .z (.sq .z (.sq .z (.sq .z .z))))))

def F3 (p0_0 : Sl) (p0_1 : Sl) (Q : Bool → Pr) : Pr :=
  nw (.cells #[(.slice p0_0.a p0_0.len p0_0.cap), (.slice p0_1.a p0_1.len p0_1.cap)] 25) fun r =>
  jn (S := Bool) (fun R =>
  callF Tryz.prog 7 [] [.c .bool] fun (t8 : Bool) =>
  br (!t8) (
  R true) (
  deref (some ⟨r, 0, none⟩) fun a =>
  ldA [.slice, .slice] a fun (t11 : Sl × Sl) =>
  callF Tryz.prog 8 [(.agg #[(.slice t11.1.a t11.1.len t11.1.cap), (.slice t11.2.a t11.2.len t11.2.cap)])] [.c .bool] fun (t12 : Bool) =>
  R (!t12))) fun s =>
  br s (
  callF Tryz.prog 7 [] [.c .bool] fun (t15 : Bool) =>
  Q t15) (
  deref (some ⟨r, 0, none⟩) fun a_1 =>
  ldA [.slice, .slice] a_1 fun (t16 : Sl × Sl) =>
  callF Tryz.prog 9 [(.agg #[(.slice t16.1.a t16.1.len t16.1.cap), (.slice t16.2.a t16.2.len t16.2.cap)])] [.agg [.slice, .slice]] fun (t17 : Sl × Sl) =>
  nw (.cells #[(.slice none 0 0), (.slice none 0 0)] 25) fun r_1 =>
  deref (some ⟨r_1, 0, none⟩) fun a_2 =>
  st (a_2.add 0) (.slice t17.1.a t17.1.len t17.1.cap) <|
  st (a_2.add 1) (.slice t17.2.a t17.2.len t17.2.cap) <|
  deref (some ⟨r, 0, none⟩) fun a_3 =>
  ldA [.slice, .slice] a_3 fun (t19 : Sl × Sl) =>
  callF Tryz.prog 10 [(.agg #[(.slice t19.1.a t19.1.len t19.1.cap), (.slice t19.2.a t19.2.len t19.2.cap)])] [.c .slice, .c .any] fun (t20 : Sl × Value) =>
  deref (some ⟨r, 0, none⟩) fun a_4 =>
  ldA [.slice, .slice] a_4 fun (t24 : Sl × Sl) =>
  callF Tryz.prog 11 [(.agg #[(.slice t24.1.a t24.1.len t24.1.cap), (.slice t24.2.a t24.2.len t24.2.cap)])] [.c .slice, .agg [(.int .i64), (.int .i64)]] fun (t25 : Sl × Int × Int) =>
  nw (.cells #[(.int .i64 0), (.int .i64 0)] 36) fun r_2 =>
  deref (some ⟨r_2, 0, none⟩) fun a_5 =>
  st (a_5.add 0) (.int .i64 t25.2.1) <|
  st (a_5.add 1) (.int .i64 t25.2.2) <|
  callF Tryz.prog 12 [(.slice t20.1.a t20.1.len t20.1.cap), (.slice t25.1.a t25.1.len t25.1.cap)] [.c .bool] fun (t30 : Bool) =>
  br t30 (
  deref (some ⟨r_2, 0, none⟩) fun a_6 =>
  ldA [(.int .i64), (.int .i64)] a_6 fun (t33 : Int × Int) =>
  callF Tryz.prog 13 [t20.2, (.agg #[(.int .i64 t33.1), (.int .i64 t33.2)])] [.c .bool] fun (t34 : Bool) =>
  br t34 (
  deref (some ⟨r, 0, none⟩) fun a_7 =>
  ldA [.slice, .slice] a_7 fun (t37 : Sl × Sl) =>
  deref (some ⟨r_1, 0, none⟩) fun a_8 =>
  ldA [.slice, .slice] a_8 fun (t38 : Sl × Sl) =>
  callF Tryz.prog 14 [(.agg #[(.slice t37.1.a t37.1.len t37.1.cap), (.slice t37.2.a t37.2.len t37.2.cap)]), (.agg #[(.slice t38.1.a t38.1.len t38.1.cap), (.slice t38.2.a t38.2.len t38.2.cap)])] [.c .bool] fun (t39 : Bool) =>
  Q t39) (
  Q false)) (
  Q false))

theorem F3_calls (p0_0 : Sl) (p0_1 : Sl) (Q : Bool → Pr) (w : World) (h : F3 p0_0 p0_1 Q w) : Calls Tryz.prog 3 #[(.agg #[(.slice p0_0.a p0_0.len p0_0.cap), (.slice p0_1.a p0_1.len p0_1.cap)])] w (RetT [.c .bool] Q) :=
  callsIn_of_compile (an := an3) (args := [(.agg #[(.slice p0_0.a p0_0.len p0_0.cap), (.slice p0_1.a p0_1.len p0_1.cap)])]) (shs := [.c .bool]) Tryz.func3 (by
    have e : compileFn Tryz.prog Tryz.f3 an3 [(.agg #[(.slice p0_0.a p0_0.len p0_0.cap), (.slice p0_1.a p0_1.len p0_1.cap)])] [.c .bool] Q = F3 p0_0 p0_1 Q := by kernel_rfl
    rw [e]; exact h)

/-! attic/atticlaw26.ArchiveUnpacks -/
def an4 : An := (.sq .z (.sq (.sq (.jn [(16, .c .bool)] .z) (.br (.sq .z .z) .z)) (.sq .z (.sq .z (.sq .z (.sq (.sq (.jn [(39, .c .bool)] .z) (.br (.sq .z .z) .z)) (.sq (.sq .z (.bl (.lp [(43, .c (.int .i64))] (.sq .z (.sq (.br .z .z) (.sq (.bl (.sq .z (.sq .z (.bl (.lp [(53, .c (.int .i64))] (.sq .z (.sq (.br .z .z) (.sq (.bl (.sq .z .z)) .z)))))))) .z)))))) (.sq .z .z))))))))

def F4 (p0 : Sl) (Q : Bool → Pr) : Pr :=
  jn (S := Bool) (fun R =>
  callF Tryz.prog 7 [] [.c .bool] fun (t10 : Bool) =>
  br (!t10) (
  R true) (
  R ((decide ((p0.len : Int) > 20000))))) fun s =>
  br s (
  callF Tryz.prog 7 [] [.c .bool] fun (t17 : Bool) =>
  Q t17) (
  callF Tryz.prog 15 [(.slice p0.a p0.len p0.cap)] [.c .slice] fun (t19 : Sl) =>
  callF Tryz.prog 16 [(.slice p0.a p0.len p0.cap)] [.agg [.slice, .slice], .c .any] fun (t22 : (Sl × Sl) × Value) =>
  nw (.cells #[(.slice none 0 0), (.slice none 0 0)] 25) fun r =>
  deref (some ⟨r, 0, none⟩) fun a =>
  st (a.add 0) (.slice t22.1.1.a t22.1.1.len t22.1.1.cap) <|
  st (a.add 1) (.slice t22.1.2.a t22.1.2.len t22.1.2.cap) <|
  callF Tryz.prog 17 [(.slice p0.a p0.len p0.cap)] [.agg [.slice, .slice], .agg [(.int .i64), (.int .i64)]] fun (t27 : (Sl × Sl) × Int × Int) =>
  nw (.cells #[(.slice none 0 0), (.slice none 0 0)] 25) fun r_1 =>
  nw (.cells #[(.int .i64 0), (.int .i64 0)] 36) fun r_2 =>
  deref (some ⟨r_1, 0, none⟩) fun a_1 =>
  st (a_1.add 0) (.slice t27.1.1.a t27.1.1.len t27.1.1.cap) <|
  st (a_1.add 1) (.slice t27.1.2.a t27.1.2.len t27.1.2.cap) <|
  deref (some ⟨r_2, 0, none⟩) fun a_2 =>
  st (a_2.add 0) (.int .i64 t27.2.1) <|
  st (a_2.add 1) (.int .i64 t27.2.2) <|
  jn (S := Bool) (fun R_1 =>
  deref (some ⟨r, 0, none⟩) fun a_3 =>
  ldA [.slice, .slice] a_3 fun (t30 : Sl × Sl) =>
  deref (some ⟨r_1, 0, none⟩) fun a_4 =>
  ldA [.slice, .slice] a_4 fun (t31 : Sl × Sl) =>
  callF Tryz.prog 14 [(.agg #[(.slice t30.1.a t30.1.len t30.1.cap), (.slice t30.2.a t30.2.len t30.2.cap)]), (.agg #[(.slice t31.1.a t31.1.len t31.1.cap), (.slice t31.2.a t31.2.len t31.2.cap)])] [.c .bool] fun (t32 : Bool) =>
  br (!t32) (
  R_1 true) (
  deref (some ⟨r_2, 0, none⟩) fun a_5 =>
  ldA [(.int .i64), (.int .i64)] a_5 fun (t36 : Int × Int) =>
  callF Tryz.prog 13 [t22.2, (.agg #[(.int .i64 t36.1), (.int .i64 t36.2)])] [.c .bool] fun (t37 : Bool) =>
  R_1 (!t37))) fun s_1 =>
  br s_1 (
  Q false) (
  deref (some ⟨r, 0, none⟩) fun a_6 =>
  deref (some (a_6.add 0)) fun a_7 =>
  ldC .slice a_7 fun (t41 : Sl) =>
  loopE (S := Int) (fun X s_2 =>
  br (decide (s_2 < (t41.len : Int))) (
  deref (some ⟨r, 0, none⟩) fun a_8 =>
  deref (some (a_8.add 0)) fun a_9 =>
  ldC .slice a_9 fun (t47 : Sl) =>
  owe ((0 : Int) ≤ s_2 ∧ s_2 < (t47.len : Int)) <|
  deref t47.a fun a_10 =>
  deref (some (a_10.add (Int.toNat s_2 * 3))) fun a_11 =>
  deref (some (a_11.add 2)) fun a_12 =>
  ldC .slice a_12 fun (t51 : Sl) =>
  loopE (S := Int) (fun X_1 s_3 =>
  br (decide (s_3 < (t51.len : Int))) (
  deref (some ⟨r, 0, none⟩) fun a_13 =>
  deref (some (a_13.add 0)) fun a_14 =>
  ldC .slice a_14 fun (t57 : Sl) =>
  owe ((0 : Int) ≤ s_2 ∧ s_2 < (t57.len : Int)) <|
  deref t57.a fun a_15 =>
  deref (some (a_15.add (Int.toNat s_2 * 3))) fun a_16 =>
  deref (some (a_16.add 2)) fun a_17 =>
  ldC .slice a_17 fun (t61 : Sl) =>
  owe ((0 : Int) ≤ s_3 ∧ s_3 < (t61.len : Int)) <|
  deref t61.a fun a_18 =>
  deref (some (a_18.add (Int.toNat s_3 * 1))) fun a_19 =>
  ldC (.int .u8) a_19 fun (t64 : Int) =>
  owe ((0 : Int) ≤ s_3 ∧ s_3 < (t61.len : Int)) <|
  deref t61.a fun a_20 =>
  deref (some (a_20.add (Int.toNat s_3 * 1))) fun a_21 =>
  st a_21 (.int .u8 (bXor .u8 t64 255)) <|
  X_1 ((IntKind.wrap .i64 (s_3 + 1)))) (
  X ((IntKind.wrap .i64 (s_2 + 1))))) 0) (
  callF Tryz.prog 12 [(.slice p0.a p0.len p0.cap), (.slice t19.a t19.len t19.cap)] [.c .bool] fun (t71 : Bool) =>
  Q t71)) 0))

theorem F4_calls (p0 : Sl) (Q : Bool → Pr) (w : World) (h : F4 p0 Q w) : Calls Tryz.prog 4 #[(.slice p0.a p0.len p0.cap)] w (RetT [.c .bool] Q) :=
  callsIn_of_compile (an := an4) (args := [(.slice p0.a p0.len p0.cap)]) (shs := [.c .bool]) Tryz.func4 (by
    have e : compileFn Tryz.prog Tryz.f4 an4 [(.slice p0.a p0.len p0.cap)] [.c .bool] Q = F4 p0 Q := by kernel_rfl
    rw [e]; exact h)

/-! attic/atticlaw26.ArchiveBack -/
def an5 : An := (.sq .z (.sq (.sq (.jn [(25, .c .bool)] .z) (.br (.sq .z .z) .z)) (.sq (.jn [] (.sq .z (.sq .z (.br (.sq .z (.sq .z (.sq (.jn [(55, .c .bool)] .z) (.br (.sq .z .z) .z)))) .z)))) (.sq .z (.sq (.sq .z (.br (.sq .z .z) .z)) (.sq .z (.sq .z .z)))))))

def F5 (p0_0 : Sl) (p0_1 : Sl) (p1 : Sl) (Q : Bool → Pr) : Pr :=
  nw (.cells #[(.slice p0_0.a p0_0.len p0_0.cap), (.slice p0_1.a p0_1.len p0_1.cap)] 25) fun r =>
  jn (S := Bool) (fun R =>
  callF Tryz.prog 7 [] [.c .bool] fun (t14 : Bool) =>
  br (!t14) (
  R true) (
  deref (some ⟨r, 0, none⟩) fun a =>
  ldA [.slice, .slice] a fun (t17 : Sl × Sl) =>
  callF Tryz.prog 8 [(.agg #[(.slice t17.1.a t17.1.len t17.1.cap), (.slice t17.2.a t17.2.len t17.2.cap)])] [.c .bool] fun (t18 : Bool) =>
  br (!t18) (
  R true) (
  R ((decide ((p1.len : Int) > 20000)))))) fun s =>
  br s (
  callF Tryz.prog 7 [] [.c .bool] fun (t26 : Bool) =>
  Q t26) (
  jn (S := Unit) (fun R_1 =>
  deref (some ⟨r, 0, none⟩) fun a_1 =>
  ldA [.slice, .slice] a_1 fun (t28 : Sl × Sl) =>
  callF Tryz.prog 10 [(.agg #[(.slice t28.1.a t28.1.len t28.1.cap), (.slice t28.2.a t28.2.len t28.2.cap)])] [.c .slice, .c .any] fun (t29 : Sl × Value) =>
  owe (isI t29.2) <|
  br (isNilI t29.2) (
  callF Tryz.prog 16 [(.slice t29.1.a t29.1.len t29.1.cap)] [.agg [.slice, .slice], .c .any] fun (t36 : (Sl × Sl) × Value) =>
  nw (.cells #[(.slice none 0 0), (.slice none 0 0)] 25) fun r_1 =>
  deref (some ⟨r_1, 0, none⟩) fun a_2 =>
  st (a_2.add 0) (.slice t36.1.1.a t36.1.1.len t36.1.1.cap) <|
  st (a_2.add 1) (.slice t36.1.2.a t36.1.2.len t36.1.2.cap) <|
  deref (some ⟨r, 0, none⟩) fun a_3 =>
  ldA [.slice, .slice] a_3 fun (t40 : Sl × Sl) =>
  callF Tryz.prog 18 [(.agg #[(.slice t40.1.a t40.1.len t40.1.cap), (.slice t40.2.a t40.2.len t40.2.cap)])] [.agg [.slice, .slice], .c (.int .i64)] fun (t41 : (Sl × Sl) × Int) =>
  nw (.cells #[(.slice none 0 0), (.slice none 0 0)] 25) fun r_2 =>
  deref (some ⟨r_2, 0, none⟩) fun a_4 =>
  st (a_4.add 0) (.slice t41.1.1.a t41.1.1.len t41.1.1.cap) <|
  st (a_4.add 1) (.slice t41.1.2.a t41.1.2.len t41.1.2.cap) <|
  jn (S := Bool) (fun R_2 =>
  owe (isI t36.2) <|
  br (!isNilI t36.2) (
  R_2 true) (
  br (t41.2 != 0) (
  R_2 true) (
  deref (some ⟨r_1, 0, none⟩) fun a_5 =>
  ldA [.slice, .slice] a_5 fun (t51 : Sl × Sl) =>
  deref (some ⟨r_2, 0, none⟩) fun a_6 =>
  ldA [.slice, .slice] a_6 fun (t52 : Sl × Sl) =>
  callF Tryz.prog 14 [(.agg #[(.slice t51.1.a t51.1.len t51.1.cap), (.slice t51.2.a t51.2.len t51.2.cap)]), (.agg #[(.slice t52.1.a t52.1.len t52.1.cap), (.slice t52.2.a t52.2.len t52.2.cap)])] [.c .bool] fun (t53 : Bool) =>
  R_2 (!t53)))) fun s_2 =>
  br s_2 (
  Q false) (
  R_1 ())) (
  R_1 ())) fun s_1 =>
  callF Tryz.prog 16 [(.slice p1.a p1.len p1.cap)] [.agg [.slice, .slice], .c .any] fun (t58 : (Sl × Sl) × Value) =>
  nw (.cells #[(.slice none 0 0), (.slice none 0 0)] 25) fun r_3 =>
  deref (some ⟨r_3, 0, none⟩) fun a_7 =>
  st (a_7.add 0) (.slice t58.1.1.a t58.1.1.len t58.1.1.cap) <|
  st (a_7.add 1) (.slice t58.1.2.a t58.1.2.len t58.1.2.cap) <|
  owe (isI t58.2) <|
  br (!isNilI t58.2) (
  deref (some ⟨r_3, 0, none⟩) fun a_8 =>
  deref (some (a_8.add 0)) fun a_9 =>
  ldC .slice a_9 fun (t64 : Sl) =>
  deref (some ⟨r_3, 0, none⟩) fun a_10 =>
  deref (some (a_10.add 1)) fun a_11 =>
  ldC .slice a_11 fun (t67 : Sl) =>
  Q (((IntKind.wrap .i64 ((t64.len : Int) + (t67.len : Int))) == 0))) (
  deref (some ⟨r_3, 0, none⟩) fun a_12 =>
  ldA [.slice, .slice] a_12 fun (t72 : Sl × Sl) =>
  callF Tryz.prog 10 [(.agg #[(.slice t72.1.a t72.1.len t72.1.cap), (.slice t72.2.a t72.2.len t72.2.cap)])] [.c .slice, .c .any] fun (t73 : Sl × Value) =>
  owe (isI t73.2) <|
  br (isNilI t73.2) (
  callF Tryz.prog 12 [(.slice t73.1.a t73.1.len t73.1.cap), (.slice p1.a p1.len p1.cap)] [.c .bool] fun (t81 : Bool) =>
  Q t81) (
  Q false)))

theorem F5_calls (p0_0 : Sl) (p0_1 : Sl) (p1 : Sl) (Q : Bool → Pr) (w : World) (h : F5 p0_0 p0_1 p1 Q w) : Calls Tryz.prog 5 #[(.agg #[(.slice p0_0.a p0_0.len p0_0.cap), (.slice p0_1.a p0_1.len p0_1.cap)]), (.slice p1.a p1.len p1.cap)] w (RetT [.c .bool] Q) :=
  callsIn_of_compile (an := an5) (args := [(.agg #[(.slice p0_0.a p0_0.len p0_0.cap), (.slice p0_1.a p0_1.len p0_1.cap)]), (.slice p1.a p1.len p1.cap)]) (shs := [.c .bool]) Tryz.func5 (by
    have e : compileFn Tryz.prog Tryz.f5 an5 [(.agg #[(.slice p0_0.a p0_0.len p0_0.cap), (.slice p0_1.a p0_1.len p0_1.cap)]), (.slice p1.a p1.len p1.cap)] [.c .bool] Q = F5 p0_0 p0_1 p1 Q := by kernel_rfl
    rw [e]; exact h)

/-! attic/atticlaw26.ArchiveSame -/
def an6 : An := (.sq .z (.sq (.sq (.jn [(20, .c .bool)] .z) (.br (.sq .z .z) .z)) (.sq .z (.sq .z (.sq (.sq (.jn [(37, .c .bool)] .z) (.br (.sq .z .z) .z)) (.sq .z .z))))))

def F6 (p0_0 : Sl) (p0_1 : Sl) (p1_0 : Sl) (p1_1 : Sl) (Q : Bool → Pr) : Pr :=
  nw (.cells #[(.slice p0_0.a p0_0.len p0_0.cap), (.slice p0_1.a p0_1.len p0_1.cap)] 25) fun r =>
  nw (.cells #[(.slice p1_0.a p1_0.len p1_0.cap), (.slice p1_1.a p1_1.len p1_1.cap)] 25) fun r_1 =>
  jn (S := Bool) (fun R =>
  callF Tryz.prog 7 [] [.c .bool] fun (t9 : Bool) =>
  br (!t9) (
  R true) (
  deref (some ⟨r, 0, none⟩) fun a =>
  ldA [.slice, .slice] a fun (t12 : Sl × Sl) =>
  callF Tryz.prog 8 [(.agg #[(.slice t12.1.a t12.1.len t12.1.cap), (.slice t12.2.a t12.2.len t12.2.cap)])] [.c .bool] fun (t13 : Bool) =>
  br (!t13) (
  R true) (
  deref (some ⟨r_1, 0, none⟩) fun a_1 =>
  ldA [.slice, .slice] a_1 fun (t17 : Sl × Sl) =>
  callF Tryz.prog 8 [(.agg #[(.slice t17.1.a t17.1.len t17.1.cap), (.slice t17.2.a t17.2.len t17.2.cap)])] [.c .bool] fun (t18 : Bool) =>
  R (!t18)))) fun s =>
  br s (
  callF Tryz.prog 7 [] [.c .bool] fun (t21 : Bool) =>
  Q t21) (
  deref (some ⟨r, 0, none⟩) fun a_2 =>
  ldA [.slice, .slice] a_2 fun (t23 : Sl × Sl) =>
  callF Tryz.prog 10 [(.agg #[(.slice t23.1.a t23.1.len t23.1.cap), (.slice t23.2.a t23.2.len t23.2.cap)])] [.c .slice, .c .any] fun (t24 : Sl × Value) =>
  deref (some ⟨r_1, 0, none⟩) fun a_3 =>
  ldA [.slice, .slice] a_3 fun (t28 : Sl × Sl) =>
  callF Tryz.prog 10 [(.agg #[(.slice t28.1.a t28.1.len t28.1.cap), (.slice t28.2.a t28.2.len t28.2.cap)])] [.c .slice, .c .any] fun (t29 : Sl × Value) =>
  jn (S := Bool) (fun R_1 =>
  owe (isI t24.2) <|
  br (!isNilI t24.2) (
  R_1 true) (
  owe (isI t29.2) <|
  R_1 ((!isNilI t29.2)))) fun s_1 =>
  br s_1 (
  drw <|
  owe (isI t24.2) <|
  deref (some ⟨r, 0, none⟩) fun a_4 =>
  ldA [.slice, .slice] a_4 fun (t40 : Sl × Sl) =>
  callF Tryz.prog 19 [(.agg #[(.slice t40.1.a t40.1.len t40.1.cap), (.slice t40.2.a t40.2.len t40.2.cap)])] [.c (.int .i64)] fun (t41 : Int) =>
  owe True <|
  br ((!isNilI t24.2) == (t41 != 0)) (
  owe (isI t29.2) <|
  deref (some ⟨r_1, 0, none⟩) fun a_5 =>
  ldA [.slice, .slice] a_5 fun (t47 : Sl × Sl) =>
  callF Tryz.prog 19 [(.agg #[(.slice t47.1.a t47.1.len t47.1.cap), (.slice t47.2.a t47.2.len t47.2.cap)])] [.c (.int .i64)] fun (t48 : Int) =>
  owe True <|
  Q (((!isNilI t29.2) == (t48 != 0)))) (
  Q false)) (
  drw <|
  both (
  callF Tryz.prog 12 [(.slice t24.1.a t24.1.len t24.1.cap), (.slice t29.1.a t29.1.len t29.1.cap)] [.c .bool] fun (t54 : Bool) =>
  deref (some ⟨r, 0, none⟩) fun a_6 =>
  ldA [.slice, .slice] a_6 fun (t55 : Sl × Sl) =>
  deref (some ⟨r_1, 0, none⟩) fun a_7 =>
  ldA [.slice, .slice] a_7 fun (t56 : Sl × Sl) =>
  callF Tryz.prog 20 [(.agg #[(.slice t55.1.a t55.1.len t55.1.cap), (.slice t55.2.a t55.2.len t55.2.cap)]), (.agg #[(.slice t56.1.a t56.1.len t56.1.cap), (.slice t56.2.a t56.2.len t56.2.cap)])] [.c .bool] fun (t57 : Bool) =>
  owe True <|
  Q ((t54 == t57))) (
  both (
  deref (some ⟨r, 0, none⟩) fun a_8 =>
  ldA [.slice, .slice] a_8 fun (t55_1 : Sl × Sl) =>
  both (
  callF Tryz.prog 12 [(.slice t24.1.a t24.1.len t24.1.cap), (.slice t29.1.a t29.1.len t29.1.cap)] [.c .bool] fun (t54_1 : Bool) =>
  deref (some ⟨r_1, 0, none⟩) fun a_9 =>
  ldA [.slice, .slice] a_9 fun (t56_1 : Sl × Sl) =>
  callF Tryz.prog 20 [(.agg #[(.slice t55_1.1.a t55_1.1.len t55_1.1.cap), (.slice t55_1.2.a t55_1.2.len t55_1.2.cap)]), (.agg #[(.slice t56_1.1.a t56_1.1.len t56_1.1.cap), (.slice t56_1.2.a t56_1.2.len t56_1.2.cap)])] [.c .bool] fun (t57_1 : Bool) =>
  owe True <|
  Q ((t54_1 == t57_1))) (
  deref (some ⟨r_1, 0, none⟩) fun a_10 =>
  ldA [.slice, .slice] a_10 fun (t56_2 : Sl × Sl) =>
  callF Tryz.prog 12 [(.slice t24.1.a t24.1.len t24.1.cap), (.slice t29.1.a t29.1.len t29.1.cap)] [.c .bool] fun (t54_2 : Bool) =>
  callF Tryz.prog 20 [(.agg #[(.slice t55_1.1.a t55_1.1.len t55_1.1.cap), (.slice t55_1.2.a t55_1.2.len t55_1.2.cap)]), (.agg #[(.slice t56_2.1.a t56_2.1.len t56_2.1.cap), (.slice t56_2.2.a t56_2.2.len t56_2.2.cap)])] [.c .bool] fun (t57_2 : Bool) =>
  owe True <|
  Q ((t54_2 == t57_2)))) (
  deref (some ⟨r_1, 0, none⟩) fun a_11 =>
  ldA [.slice, .slice] a_11 fun (t56_3 : Sl × Sl) =>
  both (
  callF Tryz.prog 12 [(.slice t24.1.a t24.1.len t24.1.cap), (.slice t29.1.a t29.1.len t29.1.cap)] [.c .bool] fun (t54_3 : Bool) =>
  deref (some ⟨r, 0, none⟩) fun a_12 =>
  ldA [.slice, .slice] a_12 fun (t55_2 : Sl × Sl) =>
  callF Tryz.prog 20 [(.agg #[(.slice t55_2.1.a t55_2.1.len t55_2.1.cap), (.slice t55_2.2.a t55_2.2.len t55_2.2.cap)]), (.agg #[(.slice t56_3.1.a t56_3.1.len t56_3.1.cap), (.slice t56_3.2.a t56_3.2.len t56_3.2.cap)])] [.c .bool] fun (t57_3 : Bool) =>
  owe True <|
  Q ((t54_3 == t57_3))) (
  deref (some ⟨r, 0, none⟩) fun a_13 =>
  ldA [.slice, .slice] a_13 fun (t55_3 : Sl × Sl) =>
  callF Tryz.prog 12 [(.slice t24.1.a t24.1.len t24.1.cap), (.slice t29.1.a t29.1.len t29.1.cap)] [.c .bool] fun (t54_4 : Bool) =>
  callF Tryz.prog 20 [(.agg #[(.slice t55_3.1.a t55_3.1.len t55_3.1.cap), (.slice t55_3.2.a t55_3.2.len t55_3.2.cap)]), (.agg #[(.slice t56_3.1.a t56_3.1.len t56_3.1.cap), (.slice t56_3.2.a t56_3.2.len t56_3.2.cap)])] [.c .bool] fun (t57_4 : Bool) =>
  owe True <|
  Q ((t54_4 == t57_4)))))))

theorem F6_calls (p0_0 : Sl) (p0_1 : Sl) (p1_0 : Sl) (p1_1 : Sl) (Q : Bool → Pr) (w : World) (h : F6 p0_0 p0_1 p1_0 p1_1 Q w) : Calls Tryz.prog 6 #[(.agg #[(.slice p0_0.a p0_0.len p0_0.cap), (.slice p0_1.a p0_1.len p0_1.cap)]), (.agg #[(.slice p1_0.a p1_0.len p1_0.cap), (.slice p1_1.a p1_1.len p1_1.cap)])] w (RetT [.c .bool] Q) :=
  callsIn_of_compile (an := an6) (args := [(.agg #[(.slice p0_0.a p0_0.len p0_0.cap), (.slice p0_1.a p0_1.len p0_1.cap)]), (.agg #[(.slice p1_0.a p1_0.len p1_0.cap), (.slice p1_1.a p1_1.len p1_1.cap)])]) (shs := [.c .bool]) Tryz.func6 (by
    have e : compileFn Tryz.prog Tryz.f6 an6 [(.agg #[(.slice p0_0.a p0_0.len p0_0.cap), (.slice p0_1.a p0_1.len p0_1.cap)]), (.agg #[(.slice p1_0.a p1_0.len p1_0.cap), (.slice p1_1.a p1_1.len p1_1.cap)])] [.c .bool] Q = F6 p0_0 p0_1 p1_0 p1_1 Q := by kernel_rfl
    rw [e]; exact h)


end Go.Proofs

/-! few. -/
set_option maxRecDepth 20000
namespace Go.Proofs
open Go.Eng

theorem SS.hd {α : Type} {f : α → List Value} {w : World} {s : Sl} {rs : List α} (h : SS f w s rs) {n c m : Nat} (hf : ∀ r, (f r).length = n) : SS f w ⟨s.a, min s.len m, c⟩ (rs.take m) := by
  refine ⟨by have := h.len; simp only [List.length_take]; omega, ?_⟩
  have hr := h.row
  have e : rs.flatMap f = (rs.take m).flatMap f ++ (rs.drop m).flatMap f := by rw [← List.flatMap_append, List.take_append_drop]
  rw [e] at hr
  cases ha : s.a with
  | none =>
    rw [ha] at hr
    have := List.append_eq_nil_iff.1 (show _ ++ _ = [] from hr)
    exact this.1
  | some ad =>
    rw [ha] at hr
    have hr : readsAt w ad 0 _ := hr
    rw [readsAt_row] at hr
    refine readsAt_row.2 ?_
    intro j v hj
    exact hr j v (by rw [List.getElem?_append_left (List.getElem?_eq_some_iff.1 hj).1]; exact hj)

/-- how much of a graph is gone through -/
theorem Y8 (gn gr : Sl) (xs : List NS) (rs : List RM) (w : World) (hns : SS ncells w gn xs) (hrs : SS rcellsM w gr rs) (hc1 : gn.len ≤ gn.cap) (hc2 : gr.len ≤ gr.cap) (hl : ∀ x ∈ xs, x.ps.len = x.p.length ∧ x.ds.len = x.d.length) :
    Calls Tryz.prog 8 #[.agg #[slV gn, slV gr]] w (RetT [.c .bool] fun r w' => (r = true → xs.length ≤ 100 ∧ rs.length ≤ 100 ∧ (∀ x ∈ xs, x.p.length ≤ 20000 ∧ x.d.length ≤ 20000) ∧ ∀ r ∈ rs, r.1.length ≤ 20000) ∧ Grow w w') := by
  refine F8_calls gn gr _ _ ?_
  unfold F8
  simp only [deref_some']
  have h1 := hns.len
  have h2 := hrs.len
  refine St.nw (St.init0 w) fun r w1 s1 _ _ => ?_
  refine s1.ld (i := 0) (s := .slice) (p := gn) rfl (s1.ld (i := 0) (s := .slice) (p := gn) rfl ?_)
  have e1 : imin (gn.len : Int) 300 = ((min gn.len 300 : Nat) : Int) := by unfold imin; split <;> omega
  rw [e1]
  refine slc_hi (by omega) (by omega) ?_
  simp only [Int.toNat_natCast, map_add_zero, ite_self]
  have hn3 := SS.hd hns (c := gn.cap) (m := 300) ncells_len
  have hr3 := SS.hd hrs (c := gr.cap) (m := 300) rcellsM_len
  refine loop_of (fun z W => ∃ (i c : Nat), z = ((c : Int), (i : Int)) ∧ i ≤ min gn.len 300 ∧ c ≤ 1048576 ∧ (c ≤ 20000 → ∀ x ∈ (xs.take 300).take i, x.p.length ≤ 20000 ∧ x.d.length ≤ 20000) ∧ St noF w W [BoxA r [slV gn, slV gr]])
    (fun z _ => min gn.len 300 - z.2.toNat) ⟨0, 0, rfl, by omega, by omega, by simp, s1⟩ ?_
  rintro _ W ⟨i, c, rfl, hi, hc, hall, sW⟩
  dsimp only
  refine br_of (fun hlt => ?_) fun hge => ?_
  · simp only [decide_eq_true_eq] at hlt
    have hil : i < (xs.take 300).length := by rw [List.length_take]; omega
    refine ⟨⟨by omega, by omega⟩, ?_⟩
    rw [Int.toNat_natCast]
    have hxi : (xs.take 300)[i]? = some (xs.take 300)[i] := by simp only [List.getElem?_eq_getElem hil]
    obtain ⟨ad, ha, hr⟩ := SS.get (n := 3) ncells_len (SS.grow hn3 sW.gro) hxi (by decide)
    dsimp only at ha
    rw [ha, deref_some']
    have hxm : (xs.take 300)[i] ∈ xs := List.mem_of_mem_take (List.getElem_mem hil)
    have etk : (xs.take 300).take (i + 1) = (xs.take 300).take i ++ [(xs.take 300)[i]] := by rw [List.take_add_one, List.getElem?_eq_getElem hil]; rfl
    generalize (xs.take 300)[i] = x at hxi hr hxm etk
    have hxl := hl x hxm
    refine ldA_of (p := (x.k, x.ps, x.ds)) (show readsAt W _ 0 (valA [.int .i64, .slice, .slice] (x.k, x.ps, x.ds)) from readsAt_row.2 hr) ?_
    refine St.nw sW fun r1 w2 s2 _ _ => s2.st (i := 0) (by simp) trivial fun w3 s3 => s3.st (i := 1) (by simp) trivial fun w4 s4 => s4.st (i := 2) (by simp) trivial fun w5 s5 => ?_
    refine s5.ld (i := 1) (s := .slice) (p := x.ps) rfl (s5.ld (i := 2) (s := .slice) (p := x.ds) rfl ?_)
    have e2 : imin (x.ps.len : Int) 1048576 = ((min x.ps.len 1048576 : Nat) : Int) := by unfold imin; split <;> omega
    have e3 : imin (x.ds.len : Int) 1048576 = ((min x.ds.len 1048576 : Nat) : Int) := by unfold imin; split <;> omega
    rw [e2, e3, show IntKind.wrap .i64 ((c : Int) + ((min x.ps.len 1048576 : Nat) : Int)) = (c : Int) + ((min x.ps.len 1048576 : Nat) : Int) from wrap_i64 ⟨by omega, by omega⟩, wrap_i64 ⟨by omega, by omega⟩, succ_i64 (by omega)]
    refine ⟨⟨i + 1, min (c + min x.ps.len 1048576 + min x.ds.len 1048576) 1048576, ?_, by omega, by omega, fun h y hy => ?_, s5.sel [1] 2⟩, by omega⟩
    · congr 1
      unfold imin
      split <;> omega
    · rw [etk] at hy
      rcases List.mem_append.1 hy with hy | hy
      · exact hall (by omega) y hy
      · rw [List.mem_singleton] at hy
        subst hy
        omega
  simp only [decide_eq_false_iff_not] at hge
  refine sW.ld (i := 1) (s := .slice) (p := gr) rfl (sW.ld (i := 1) (s := .slice) (p := gr) rfl ?_)
  have e1 : imin (gr.len : Int) 300 = ((min gr.len 300 : Nat) : Int) := by unfold imin; split <;> omega
  rw [e1]
  refine slc_hi (by omega) (by omega) ?_
  simp only [Int.toNat_natCast, map_add_zero, ite_self]
  have hall1 : c ≤ 20000 → ∀ x ∈ xs.take 300, x.p.length ≤ 20000 ∧ x.d.length ≤ 20000 := by
    intro h x hx
    refine hall h x ?_
    rw [List.take_of_length_le (by rw [List.length_take]; omega)]
    exact hx
  clear hall
  refine loop_of (fun z W => ∃ (i c' : Nat), z = ((c' : Int), (i : Int)) ∧ i ≤ min gr.len 300 ∧ c ≤ c' ∧ c' ≤ 1048576 ∧ (c' ≤ 20000 → ∀ x ∈ (rs.take 300).take i, x.1.length ≤ 20000) ∧ St noF w W [BoxA r [slV gn, slV gr]])
    (fun z _ => min gr.len 300 - z.2.toNat) ⟨0, c, rfl, by omega, by omega, hc, by simp, sW⟩ ?_
  rintro _ W ⟨i, c', rfl, hi, hcc, hc', hall, sW⟩
  dsimp only
  refine br_of (fun hlt => ?_) fun hge => ?_
  · simp only [decide_eq_true_eq] at hlt
    have hil : i < (rs.take 300).length := by rw [List.length_take]; omega
    refine ⟨⟨by omega, by omega⟩, ?_⟩
    rw [Int.toNat_natCast]
    have hxi : (rs.take 300)[i]? = some (rs.take 300)[i] := by simp only [List.getElem?_eq_getElem hil]
    obtain ⟨ad, ha, hr⟩ := SS.get (n := 2) rcellsM_len (SS.grow hr3 sW.gro) hxi (by decide)
    dsimp only at ha
    rw [ha, deref_some']
    have etk : (rs.take 300).take (i + 1) = (rs.take 300).take i ++ [(rs.take 300)[i]] := by rw [List.take_add_one, List.getElem?_eq_getElem hil]; rfl
    generalize (rs.take 300)[i] = x at hxi hr etk
    refine ldA_of (p := (bytesOf x.1, x.2)) (show readsAt W _ 0 (valA [.str, .int .i64] (bytesOf x.1, x.2)) from readsAt_row.2 hr) ?_
    refine St.nw sW fun r1 w2 s2 _ _ => s2.st (i := 0) (by simp) trivial fun w3 s3 => s3.st (i := 1) (by simp) trivial fun w4 s4 => ?_
    refine s4.ld (i := 0) (s := .str) (p := bytesOf x.1) rfl ?_
    rw [bytesOf_size]
    have e2 : imin (x.1.length : Int) 1048576 = ((min x.1.length 1048576 : Nat) : Int) := by unfold imin; split <;> omega
    rw [e2, wrap_i64 ⟨by omega, by omega⟩, succ_i64 (by omega)]
    refine ⟨⟨i + 1, min (c' + min x.1.length 1048576) 1048576, ?_, by omega, by omega, by omega, fun h y hy => ?_, s4.sel [1] 2⟩, by omega⟩
    · congr 1
      unfold imin
      split <;> omega
    · rw [etk] at hy
      rcases List.mem_append.1 hy with hy | hy
      · exact hall (by omega) y hy
      · rw [List.mem_singleton] at hy
        subst hy
        omega
  · simp only [decide_eq_false_iff_not] at hge
    refine sW.ld (i := 0) (s := .slice) (p := gn) rfl ?_
    refine br_of (fun hn => ?_) fun _ => ⟨(by intro h; cases h), sW.gro⟩
    refine sW.ld (i := 1) (s := .slice) (p := gr) rfl ?_
    refine br_of (fun hn2 => ⟨fun hb => ?_, sW.gro⟩) fun _ => ⟨(by intro h; cases h), sW.gro⟩
    simp only [decide_eq_true_eq] at hn hn2 hb
    have hx : xs.take 300 = xs := List.take_of_length_le (by omega)
    have hr : rs.take 300 = rs := List.take_of_length_le (by omega)
    refine ⟨by omega, by omega, fun x hx' => hall1 (by omega) x (by rw [hx]; exact hx'), fun y hy => hall (by omega) y ?_⟩
    rw [hr, List.take_of_length_le (by omega)]
    exact hy
end Go.Proofs

/-! two. -/
set_option maxRecDepth 20000
namespace Go.Proofs
open Go.Eng

/-- a box as a slice of all of it -/
theorem St.boxSl {F0 : Nat → Prop} {w0 w : World} {L : List HA} {b n k : Nat} {vs : List Value} (h : St F0 w0 w (BoxA b vs :: L)) (hl : vs.length = k * n) : St F0 w0 w (SlA n ⟨some ⟨b, 0, none⟩, k, k⟩ vs :: L) := by
  refine St.conv1 [BoxA b vs] h fun F hF => ?_
  have h1 := hF.one
  refine ⟨⟨hl, Nat.le_refl _, .inr ⟨b, 0, [], rfl, Nat.zero_le _, h1.1.lt, h1.1.unf, by rw [List.append_nil]; exact h1.1.row, by rw [List.append_nil]; exact hl⟩⟩, fun c => ?_⟩
  rw [h1.2]
  constructor
  · rintro rfl; exact ⟨_, rfl, rfl⟩
  · rintro ⟨ad, ha, rfl⟩; cases ha; rfl

def twoM : GG := ⟨[⟨1, [1], [7]⟩, ⟨1, [], [7]⟩], [([97], 0)]⟩

theorem Y21 (w : World) : Calls Tryz.prog 21 #[] w (RetT [.agg [.slice, .slice]] fun r w' => GotG twoM w r w') := by
  refine F21_calls _ _ ?_
  unfold F21
  simp only [deref_some']
  refine St.nw (St.init0 w) fun r w1 s1 _ _ => St.nw s1 fun r1 w2 s2 _ _ => St.nw s2 fun r2 w3 s3 _ _ => St.nw s3 fun r3 w4 s4 _ _ => St.nw s4 fun r4 w5 s5 _ _ => St.nw s5 fun r5 w6 s6 _ _ => ?_
  refine (s6.bring 5).st (i := 0) (by simp) trivial fun w7 s7 => s7.st (i := 1) (by simp) trivial fun w8 s8 => ?_
  refine Box.ldA (l := [.slice, .slice]) (p := (⟨some ⟨r4, 0, none⟩, 2, 2⟩, ⟨some ⟨r5, 0, none⟩, 1, 1⟩)) s8.box ?_
  have s8 : St noF w w8 [BoxA r [.slice (some ⟨r4, 0, none⟩) 2 2, .slice (some ⟨r5, 0, none⟩) 1 1], BoxA r5 (rcellsM ([97], 0)), BoxA r4 ([NS.mk 1 ⟨some ⟨r1, 0, none⟩, 1, 1⟩ [1] ⟨some ⟨r2, 0, none⟩, 1, 1⟩ [7], NS.mk 1 ⟨none, 0, 0⟩ [] ⟨some ⟨r3, 0, none⟩, 1, 1⟩ [7]].flatMap ncells), BoxA r3 (([7] : List UInt8).map ub), BoxA r2 (([7] : List UInt8).map ub), BoxA r1 (([1] : List Int).map iv)] := s8
  have a1 := St.boxSl (n := 1) (k := 1) (s8.bring 5) rfl
  have a2 := St.boxSl (n := 1) (k := 1) (a1.bring 5) rfl
  have a3 := St.boxSl (n := 1) (k := 1) (a2.bring 5) rfl
  have a4 := St.boxSl (n := 3) (k := 2) (a3.bring 5) rfl
  have a5 := St.boxSl (n := 2) (k := 1) (a4.bring 5) rfl
  have a5 : St noF w w8 [SlA 2 ⟨some ⟨r5, 0, none⟩, 1, 1⟩ (rcellsM ([97], 0)), SlA 3 ⟨some ⟨r4, 0, none⟩, 2, 2⟩ ([NS.mk 1 ⟨some ⟨r1, 0, none⟩, 1, 1⟩ [1] ⟨some ⟨r2, 0, none⟩, 1, 1⟩ [7], NS.mk 1 ⟨none, 0, 0⟩ [] ⟨some ⟨r3, 0, none⟩, 1, 1⟩ [7]].flatMap ncells), SlA 1 ⟨some ⟨r3, 0, none⟩, 1, 1⟩ (([7] : List UInt8).map ub), SlA 1 ⟨some ⟨r2, 0, none⟩, 1, 1⟩ (([7] : List UInt8).map ub), SlA 1 ⟨some ⟨r1, 0, none⟩, 1, 1⟩ (([1] : List Int).map iv), BoxA r [.slice (some ⟨r4, 0, none⟩) 2 2, .slice (some ⟨r5, 0, none⟩) 1 1]] := a5
  refine ⟨⟨⟨some ⟨r4, 0, none⟩, 2, 2⟩, ⟨some ⟨r5, 0, none⟩, 1, 1⟩, [NS.mk 1 ⟨some ⟨r1, 0, none⟩, 1, 1⟩ [1] ⟨some ⟨r2, 0, none⟩, 1, 1⟩ [7], NS.mk 1 ⟨none, 0, 0⟩ [] ⟨some ⟨r3, 0, none⟩, 1, 1⟩ [7]], [([97], 0)]⟩, rfl, rfl, rfl, GAx.mk ?_⟩
  have b1 := a5.nosl 1
  have b2 : St noF w w8 (nodeA (NS.mk 1 ⟨none, 0, 0⟩ [] ⟨some ⟨r3, 0, none⟩, 1, 1⟩ [7]) :: _) := St.mkbig (xs := [SlA 1 ⟨none, 0, 0⟩ [], SlA 1 ⟨some ⟨r3, 0, none⟩, 1, 1⟩ (([7] : List UInt8).map ub)]) (b1.sel [0, 3, 1, 2, 4, 5] 7)
  have b3 : St noF w w8 (nodeA (NS.mk 1 ⟨some ⟨r1, 0, none⟩, 1, 1⟩ [1] ⟨some ⟨r2, 0, none⟩, 1, 1⟩ [7]) :: _) := St.mkbig (xs := [SlA 1 ⟨some ⟨r1, 0, none⟩, 1, 1⟩ (([1] : List Int).map iv), SlA 1 ⟨some ⟨r2, 0, none⟩, 1, 1⟩ (([7] : List UInt8).map ub)]) (b2.sel [4, 3, 0, 1, 2] 5)
  have b4 : St noF w w8 (bigA [nodeA (NS.mk 1 ⟨some ⟨r1, 0, none⟩, 1, 1⟩ [1] ⟨some ⟨r2, 0, none⟩, 1, 1⟩ [7]), nodeA (NS.mk 1 ⟨none, 0, 0⟩ [] ⟨some ⟨r3, 0, none⟩, 1, 1⟩ [7])] :: _) := St.mkbig (xs := [nodeA (NS.mk 1 ⟨some ⟨r1, 0, none⟩, 1, 1⟩ [1] ⟨some ⟨r2, 0, none⟩, 1, 1⟩ [7]), nodeA (NS.mk 1 ⟨none, 0, 0⟩ [] ⟨some ⟨r3, 0, none⟩, 1, 1⟩ [7])]) b3
  exact b4.sel [2, 0, 1] 3
end Go.Proofs

/-! What is packed is unpacked; the two nodes. -/
set_option maxRecDepth 20000
namespace Go.Proofs
open Go.Eng

theorem pack_len (G : GG) : (packB G).length = (bodyB G (dataL G)).length + 4 := by
  unfold packB sealM
  rw [List.length_append, numB_len]
theorem pack_take (G : GG) : (packB G).take ((packB G).length - 4) = bodyB G (dataL G) := by
  rw [pack_len, Nat.add_sub_cancel]
  unfold packB sealM
  rw [List.take_left]
theorem pack_drop (G : GG) : (packB G).drop ((packB G).length - 4) = numB 4 (sumM (bodyB G (dataL G))) := by
  rw [pack_len, Nat.add_sub_cancel]
  unfold packB sealM
  rw [List.drop_left]
theorem body_take (G : GG) (ds : List (List UInt8)) : (bodyB G ds).take 8 = magicL := by
  unfold bodyB
  simp only [List.append_assoc]
  exact List.take_left (l₁ := magicL)
theorem body_len (G : GG) (ds : List (List UInt8)) : 8 ≤ (bodyB G ds).length := by
  have := congrArg List.length (body_take G ds)
  rw [List.length_take] at this
  have h8 : magicL.length = 8 := rfl
  omega

theorem unpack_pack {G : GG} (ht : G.tiny) (hok : okG G = true) (hc : canM G = G) : unpackM (packB G) = .ok G := by
  have hl := pack_len G
  have hb := body_len G (dataL G)
  unfold unpackM
  rw [if_neg, if_neg, pack_take, body_read ht]
  · dsimp only
    rw [if_pos ⟨hok, hc, rfl⟩]
  · rw [pack_take, pack_drop]
    exact fun h => h rfl
  · rintro (h | h)
    · omega
    · refine h ?_
      have h2 := body_take G (dataL G)
      rw [← pack_take, List.take_take, Nat.min_eq_left (by omega)] at h2
      exact h2

/-- unlike graphs have unlike archives -/
theorem pack_inj {G H : GG} (hg : G.tiny) (hh : H.tiny) : packB G = packB H ↔ G = H := by
  constructor
  · intro h
    have e : bodyB G (dataL G) = bodyB H (dataL H) := by rw [← pack_take G, ← pack_take H, h]
    have h1 := body_read hg
    rw [e, body_read hh] at h1
    simp only [Except.ok.injEq, Prod.mk.injEq] at h1
    exact h1.1.symm
  · rintro rfl; rfl

/-- what was unpacked is packed as it was -/
theorem pack_unpack {b : List UInt8} {G : GG} (h : unpackM b = .ok G) : okG G = true ∧ canM G = G ∧ packB G = b := by
  unfold unpackM at h
  split at h
  · cases h
  rename_i h1
  split at h
  · cases h
  rename_i h2
  split at h
  · cases h
  rename_i G' ds hg
  split at h
  · rename_i hc
    simp only [Except.ok.injEq] at h
    subst h
    have h12 : 12 ≤ b.length := by
      rcases Nat.lt_or_ge b.length 12 with h | h
      · exact absurd (.inl h) h1
      · exact h
    have hm : b.take 8 = magicL := Decidable.not_not.1 fun h => h1 (.inr h)
    have hs := Decidable.not_not.1 h2
    refine ⟨hc.1, hc.2.1, (pack_iff h12 hm hs hg ?_).2 hc.2.2⟩
    rw [← hc.2.1]
    exact can_tiny hc.1
  · cases h

theorem ok_two : okG twoM = true := by decide
open Classical in
theorem reach_two : reachM twoM = [true, true] := by
  have r0 : Rch twoM 0 := Rch.root (r := ([97], 0)) (by simp [twoM])
  have r1 : Rch twoM 1 := Rch.plain (i := 0) (n := ⟨1, [1], [7]⟩) (p := 1) r0 rfl rfl (by simp) (by decide)
  unfold reachM
  show [decide (Rch twoM 0), decide (Rch twoM 1)] = _
  rw [decide_eq_true r0, decide_eq_true r1]
theorem can_two : canM twoM = twoM := by
  have h : clearedM twoM = twoM := by
    unfold clearedM keptG
    rw [reach_two]
    rfl
  unfold canM
  rw [h]
  decide
theorem tiny_two : twoM.tiny := okG_tiny ok_two
theorem two_len : (packB twoM).length = 27 := by
  rw [pack_len]
  decide
theorem two_mid : ((packB twoM).take 22).drop 8 = [1, 1, 7, 2, 1, 0, 1, 2, 1, 0, 0, 1, 1, 97] := by
  unfold packB sealM
  rw [List.take_append_of_le_length (by decide)]
  decide
theorem two_few : unpackM ((packB twoM).take 11) = .error (0, 260) := by
  unfold unpackM
  rw [if_pos]
  left
  rw [List.length_take, two_len]
  decide
end Go.Proofs

/-! begun. -/
set_option maxRecDepth 20000
namespace Go.Proofs
open Go.Eng

theorem tiny_small {G : GG} (h : G.tiny) : G.small := ⟨by have := h.nl; omega, by have := h.rl; omega, fun x hx => by have := h.pl x hx; omega, fun x hx => by have := h.dl x hx; omega, fun r hr => by have := h.sl r hr; omega⟩

theorem Y7 (w : World) (hg : w.cell? ⟨0, 0, none⟩ = some (tyV 31)) : Calls Tryz.prog 7 #[] w (RetT [.c .bool] fun r w' => r = true ∧ Grow w w') := by
  refine F7_calls _ _ ?_
  unfold F7
  simp only [deref_some']
  have hsm2 := tiny_small tiny_two
  refine callF_of (Y21 w) ?_
  rintro ⟨a1, a2⟩ w1 ⟨g, rfl, rfl, hgm, s1⟩
  have hsg : g.small := GS.small_iff.2 (by rw [hgm]; exact hsm2)
  refine callF_of (Y10 g w1 (St.rg s1 hsg)) ?_
  rintro ⟨q, v⟩ w2 (⟨hok, rfl, k2⟩ | ⟨hb, _⟩)
  rotate_left
  · rw [hgm, ok_two] at hb; cases hb
  rw [hgm, can_two] at k2
  have s2 := s1.call0 k2
  dsimp only at s2 ⊢
  have s2 : St noF w w2 [SlA 1 q ((packB twoM).map ub), GAx g] := s2
  have hql := slA_len1 s2.sl
  rw [List.length_map, two_len] at hql
  have hqc := s2.sl.le
  refine jn_of (fun s' W' => s' = false ∧ ∃ T, St noF w W' (SlA 1 q ((packB twoM).map ub) :: GAx g :: T)) ?_ ?_
  · refine ⟨trivial, br_of (fun h => by cases h) fun _ => ?_⟩
    refine br_of (fun h => ?_) fun _ => ?_
    · rw [hql] at h; simp at h
    refine slc_bs (l := packB twoM) s2.sl.bs hqc (by omega) (by omega) (by omega) fun t ht _ => ?_
    have ht' : BS w2 t [1, 1, 7, 2, 1, 0, 1, 2, 1, 0, 0, 1, 1, 97] := by rw [← two_mid]; exact ht
    refine St.nw s2 fun r w3 s3 hg3 _ => ?_
    have hb : BS w3 ⟨some ⟨r, 0, none⟩, 14, 14⟩ [1, 1, 7, 2, 1, 0, 1, 2, 1, 0, 0, 1, 1, 97] := ⟨rfl, readsAt_row.2 s3.box.row⟩
    refine callF_of (Y12 t ⟨some ⟨r, 0, none⟩, 14, 14⟩ _ _ w3 (ht'.grow hg3) hb) ?_
    rintro _ _ ⟨rfl, rfl⟩
    exact ⟨rfl, _, s3.sel [1, 2, 0] 3⟩
  rintro _ W ⟨rfl, T, s3⟩
  refine br_of (fun h => by cases h) fun _ => ?_
  have s3 : St noF w W [SlA 1 q ((packB twoM).map ub), GAx g] := St.dropR (l := [_, _]) s3
  have hun := unpack_pack tiny_two ok_two can_two
  refine callF_of (Y16 q (packB twoM) W s3.sl.bs hqc (by rw [two_len]; decide)) ?_
  rintro ⟨⟨x1, x2⟩, e1⟩ w4 (⟨x, hx, hxe, rfl, hxs, k4⟩ | ⟨e, n, b, hx, _⟩)
  rotate_left
  · rw [hun] at hx; cases hx
  rw [hun] at hx
  simp only [Except.ok.injEq] at hx
  simp only [Prod.mk.injEq] at hxe
  obtain ⟨rfl, rfl⟩ := hxe
  have s4 := s3.call0 k4
  refine St.nw s4 fun r1 w5 s5 _ _ => s5.st (i := 0) (by simp) trivial fun w6 s6 => s6.st (i := 1) (by simp) trivial fun w7 s7 => ?_
  have s7 : St noF w w7 [BoxA r1 [slV x.gn, slV x.gr], GAx x, SlA 1 q ((packB twoM).map ub), GAx g] := s7
  have hbq : BS w7 q (packB twoM) := (s7.bring 2).sl.bs
  refine slc_to' (n := 11) (by omega) ?_
  have hb11 := bs_to (n := 11) hbq (by rw [two_len]; decide)
  refine callF_of (Y16 ⟨q.a, 11, q.cap⟩ ((packB twoM).take 11) w7 hb11 (by dsimp only; omega) (by rw [List.length_take, two_len]; decide)) ?_
  rintro ⟨⟨y1, y2⟩, e2⟩ w8 (⟨y, hy, _⟩ | ⟨e, n, b, hy, hye, rfl, k8⟩)
  · rw [two_few] at hy; cases hy
  rw [two_few] at hy
  simp only [Except.error.injEq, Prod.mk.injEq] at hy
  obtain ⟨rfl, rfl⟩ := hy
  have s8 := s7.call0 k8
  refine St.nw s8 fun r2 w9 s9 _ _ => s9.st (i := 0) (by simp) trivial fun w10 s10 => s10.st (i := 1) (by simp) trivial fun w11 s11 => ?_
  have s11 : St noF w w11 [BoxA r2 [slV y1, slV y2], BadA b ((0 : Nat) : Int) 260, BoxA r1 [slV x.gn, slV x.gr], GAx x, SlA 1 q ((packB twoM).map ub), GAx g] := s11
  rw [drw_def]
  have s12 := s11.drew
  have fin : ∀ W2 T, St noF w W2 (BadA b ((0 : Nat) : Int) 260 :: T) → callF Tryz.prog 13 [.iface 96 (.pointer (some ⟨b, 0, none⟩)), .agg #[.int .i64 0, .int .i64 260]] [.c .bool] (fun t46 w' => t46 = true ∧ Grow w w') W2 := by
    intro W2 T s'
    refine is13 hg (by decide) s' fun W3 s'' => ⟨?_, s''.gro⟩
    simp
  have eqx : ∀ W2 L, St noF w W2 L → ∀ h : GS, RG W2 noF x → RG W2 noF h → h.m = twoM → ∀ k : Bool → Pr, (∀ W3, Grow W2 W3 → k true W3) → callF Tryz.prog 14 [x.v, h.v] [.c .bool] k W2 := by
    intro W2 L s' h hx' hh hm k hk
    refine callF_of (Y14 x h W2 hx' hh) ?_
    rintro _ W3 ⟨rfl, g3⟩
    rw [decide_eq_true (by rw [hm, ← hx])]
    exact hk W3 g3
  refine ⟨trivial, ?_, ?_⟩
  · refine br_of (fun _ => ?_) fun h => by cases h
    refine Box.ldA (l := [.slice, .slice]) (p := (x.gn, x.gr)) (s12.bring 2).box ?_
    refine callF_of (Y21 _) ?_
    rintro ⟨z1, z2⟩ w13 ⟨z, rfl, rfl, hz, k13⟩
    have s13 := s12.call0 k13
    refine eqx w13 _ s13 z (St.rg (s13.bring 4) hxs) (St.rg s13 (GS.small_iff.2 (by rw [hz]; exact hsm2))) hz _ fun W3 g3 => ?_
    refine br_of (fun _ => ?_) fun h => by cases h
    exact fin W3 _ ((s13.grow g3).bring 2)
  · refine br_of (fun _ => ?_) fun h => by cases h
    refine callF_of (Y21 _) ?_
    rintro ⟨z1, z2⟩ w13 ⟨z, rfl, rfl, hz, k13⟩
    have s13 := s12.call0 k13
    refine Box.ldA (l := [.slice, .slice]) (p := (x.gn, x.gr)) (s13.bring 3).box ?_
    refine eqx w13 _ s13 z (St.rg (s13.bring 4) hxs) (St.rg s13 (GS.small_iff.2 (by rw [hz]; exact hsm2))) hz _ fun W3 g3 => ?_
    refine br_of (fun _ => ?_) fun h => by cases h
    exact fin W3 _ ((s13.grow g3).bring 2)
end Go.Proofs

/-! ArchivePacks. -/
set_option maxRecDepth 20000
namespace Go.Proofs
open Go.Eng

/-- a graph that is handed in: of any size -/
structure RG0 (w : World) (g : GS) : Prop where
  ns : SS ncells w g.gn g.xs
  rs : SS rcellsM w g.gr g.rs
  ip : ∀ x ∈ g.xs, IS w x.ps x.p
  bd : ∀ x ∈ g.xs, BS w x.ds x.d
  c1 : g.gn.len ≤ g.gn.cap
  c2 : g.gr.len ≤ g.gr.cap
theorem RG0.grow {w w' : World} {g : GS} (h : RG0 w g) (hm : Grow w w') : RG0 w' g := ⟨h.ns.grow hm, h.rs.grow hm, fun x hx => (h.ip x hx).grow hm, fun x hx => (h.bd x hx).grow hm, h.c1, h.c2⟩
theorem RG0.rg {w : World} {g : GS} (h : RG0 w g) (hs : g.small) : RG w noF g := ⟨h.ns, h.rs, h.ip, h.bd, fun _ _ _ h => h, fun _ _ _ h => h, fun _ _ _ _ _ h => h, fun _ _ _ _ _ h => h, hs⟩

theorem Y8' (g : GS) (w : World) (h : RG0 w g) : Calls Tryz.prog 8 #[g.v] w (RetT [.c .bool] fun r w' => (r = true → g.small) ∧ Grow w w') := by
  refine (Y8 g.gn g.gr g.xs g.rs w h.ns h.rs h.c1 h.c2 fun x hx => ⟨(h.ip x hx).len, (h.bd x hx).len⟩).mono ?_
  rintro e w' ⟨p, he, h1, h2⟩
  refine ⟨p, he, fun hb => ?_, h2⟩
  obtain ⟨a, b, c, d⟩ := h1 hb
  exact ⟨by omega, by omega, fun x hx => (c x hx).1, fun x hx => (c x hx).2, d⟩

theorem law3 (g : GS) (w : World) (hg : w.cell? ⟨0, 0, none⟩ = some (tyV 31)) (h0 : RG0 w g) : Calls Tryz.prog 3 #[g.v] w (RetT [.c .bool] fun r w' => r = true ∧ Grow w w') := by
  refine F3_calls g.gn g.gr _ _ ?_
  unfold F3
  simp only [deref_some']
  refine St.nw (St.init0 w) fun r w1 s1 _ _ => ?_
  have s1 : St noF w w1 [BoxA r [slV g.gn, slV g.gr]] := s1
  refine jn_of (fun s' W => (s' = false → g.small) ∧ St noF w W [BoxA r [slV g.gn, slV g.gr]]) ?_ ?_
  · refine callF_of (Y7 w1 (cell_gro s1.gro hg)) ?_
    rintro _ w2 ⟨rfl, g2⟩
    have s2 := s1.grow g2
    refine br_of (fun h => by cases h) fun _ => ?_
    refine Box.ldA (l := [.slice, .slice]) (p := (g.gn, g.gr)) s2.box ?_
    refine callF_of (Y8' g w2 (h0.grow s2.gro)) ?_
    rintro b w3 ⟨hb, g3⟩
    exact ⟨fun h => hb (by simpa using h), s2.grow g3⟩
  rintro b W ⟨hb, sW⟩
  refine br_of (fun _ => ?_) fun hf => ?_
  · refine callF_of (Y7 W (cell_gro sW.gro hg)) ?_
    rintro _ w2 ⟨rfl, g2⟩
    exact ⟨rfl, (sW.grow g2).gro⟩
  have hsm := hb hf
  have hrg : ∀ {W' L}, St noF w W' L → RG W' noF g := fun s => (h0.grow s.gro).rg hsm
  refine Box.ldA (l := [.slice, .slice]) (p := (g.gn, g.gr)) sW.box ?_
  refine callF_of (Y9 g W (hrg sW)) ?_
  rintro ⟨c1, c2⟩ w2 ⟨c, rfl, rfl, hcm, k2⟩
  have s2 := sW.call0 k2
  refine St.nw s2 fun r1 w3 s3 _ _ => s3.st (i := 0) (by simp) trivial fun w4 s4 => s4.st (i := 1) (by simp) trivial fun w5 s5 => ?_
  have s5 : St noF w w5 [BoxA r1 [slV c.gn, slV c.gr], GAx c, BoxA r [slV g.gn, slV g.gr]] := s5
  have hcs : c.small := GS.small_iff.2 (by rw [hcm]; exact GS.small_iff.1 hsm)
  refine Box.ldA (l := [.slice, .slice]) (p := (g.gn, g.gr)) (s5.bring 2).box ?_
  refine callF_of (Y10 g w5 (hrg s5)) fun rr w6 hP => ?_
  -- what is left, either way
  have last : ∀ W, St noF w W [BoxA r1 [slV c.gn, slV c.gr], GAx c, BoxA r [slV g.gn, slV g.gr]] →
      (ldA [.slice, .slice] ⟨r, 0, none⟩ fun (t37 : Sl × Sl) => ldA [.slice, .slice] ⟨r1, 0, none⟩ fun (t38 : Sl × Sl) => callF Tryz.prog 14 [.agg #[.slice t37.1.a t37.1.len t37.1.cap, .slice t37.2.a t37.2.len t37.2.cap], .agg #[.slice t38.1.a t38.1.len t38.1.cap, .slice t38.2.a t38.2.len t38.2.cap]] [.c .bool] fun (t39 : Bool) w' => t39 = true ∧ Grow w w') W := by
    intro W s
    refine Box.ldA (l := [.slice, .slice]) (p := (g.gn, g.gr)) (s.bring 2).box ?_
    refine Box.ldA (l := [.slice, .slice]) (p := (c.gn, c.gr)) s.box ?_
    refine callF_of (Y14 g c W (hrg s) (St.rg (s.bring 1) hcs)) ?_
    rintro _ w' ⟨rfl, g'⟩
    exact ⟨by rw [hcm]; simp, (s.grow g').gro⟩
  obtain ⟨x, v⟩ := rr
  rcases hP with ⟨hok, rfl, k6⟩ | ⟨hbad, rfl, b, rfl, k6⟩
  · have s6 := s5.call0 k6
    have s6 : St noF w w6 [SlA 1 x ((packB (canM g.m)).map ub), BoxA r1 [slV c.gn, slV c.gr], GAx c, BoxA r [slV g.gn, slV g.gr]] := s6
    refine Box.ldA (l := [.slice, .slice]) (p := (g.gn, g.gr)) (s6.bring 3).box ?_
    refine callF_of (Y11 g w6 (hrg s6)) ?_
    rintro ⟨y, f1, f2⟩ w7 (⟨_, hf, k7⟩ | ⟨hb2, _⟩)
    rotate_left
    · rw [hok] at hb2; cases hb2
    simp only [Prod.mk.injEq] at hf
    obtain ⟨rfl, rfl⟩ := hf
    have s7 := s6.call0 k7
    refine St.nw s7 fun r2 w8 s8 _ _ => s8.st (i := 0) (by simp) trivial fun w9 s9 => s9.st (i := 1) (by simp) trivial fun w10 s10 => ?_
    have s10 : St noF w w10 [BoxA r2 [.int .i64 0, .int .i64 0], SlA 1 y ((packB (canM g.m)).map ub), SlA 1 x ((packB (canM g.m)).map ub), BoxA r1 [slV c.gn, slV c.gr], GAx c, BoxA r [slV g.gn, slV g.gr]] := s10
    generalize packB (canM g.m) = B at s10
    refine callF_of (Y12 x y B B w10 (s10.bring 2).sl.bs (s10.bring 1).sl.bs) ?_
    rintro _ _ ⟨rfl, rfl⟩
    refine br_of (fun _ => ?_) fun h => by simp at h
    refine Box.ldA (l := [.int .i64, .int .i64]) (p := (0, 0)) s10.box ?_
    refine is13_nil (e := 0) (n := 0) s10 fun w11 s11 => ?_
    refine br_of (fun _ => ?_) fun h => by simp at h
    have s12 : St noF w w11 [BoxA r1 [slV c.gn, slV c.gr], GAx c, BoxA r [slV g.gn, slV g.gr]] := s11.sel [3, 4, 5] 6
    exact last w11 s12
  · have s6 := s5.call0 k6
    have s6 : St noF w w6 [BadA b 0 180, BoxA r1 [slV c.gn, slV c.gr], GAx c, BoxA r [slV g.gn, slV g.gr]] := s6
    refine Box.ldA (l := [.slice, .slice]) (p := (g.gn, g.gr)) (s6.bring 3).box ?_
    refine callF_of (Y11 g w6 (hrg s6)) ?_
    rintro ⟨y, f1, f2⟩ w7 (⟨hb2, _⟩ | ⟨_, rfl, hf, g7⟩)
    · rw [hbad] at hb2; cases hb2
    simp only [Prod.mk.injEq] at hf
    obtain ⟨rfl, rfl⟩ := hf
    have s7 := s6.grow g7
    refine St.nw s7 fun r2 w8 s8 _ _ => s8.st (i := 0) (by simp) trivial fun w9 s9 => s9.st (i := 1) (by simp) trivial fun w10 s10 => ?_
    have s10 : St noF w w10 [BoxA r2 [.int .i64 0, .int .i64 180], BadA b 0 180, BoxA r1 [slV c.gn, slV c.gr], GAx c, BoxA r [slV g.gn, slV g.gr]] := s10
    refine callF_of (Y12 ⟨none, 0, 0⟩ ⟨none, 0, 0⟩ [] [] w10 ⟨rfl, rfl⟩ ⟨rfl, rfl⟩) ?_
    rintro _ _ ⟨rfl, rfl⟩
    refine br_of (fun _ => ?_) fun h => by simp at h
    refine Box.ldA (l := [.int .i64, .int .i64]) (p := (0, 180)) s10.box ?_
    refine is13 hg (by decide) (s10.bring 1) fun w11 s11 => ?_
    refine br_of (fun _ => ?_) fun h => by simp at h
    exact last w11 (s11.sel [2, 3, 4] 5)
end Go.Proofs

/-! ArchiveSame. -/
set_option maxRecDepth 20000
namespace Go.Proofs
open Go.Eng

theorem PostPack.out {G : GG} {w w0 W : World} {L : List HA} {r : Sl × Value} (h : PostPack G w r W) (s : St noF w0 w L) : ∃ L1, St noF w0 W (L1 ++ L) ∧ isI r.2 ∧ isNilI r.2 = okG G ∧ (okG G = true → L1 = [SlA 1 r.1 ((packB (canM G)).map ub)]) := by
  rcases h with ⟨hok, h2, k⟩ | ⟨hb, _, b, h2, k⟩
  · exact ⟨_, s.call0 k, by rw [h2]; trivial, by rw [h2, hok]; rfl, fun _ => rfl⟩
  · exact ⟨_, s.call0 k, by rw [h2]; trivial, by rw [h2, hb]; rfl, fun h => by rw [hb] at h; cases h⟩

theorem law6 (g h : GS) (w : World) (hg : w.cell? ⟨0, 0, none⟩ = some (tyV 31)) (h0 : RG0 w g) (h1 : RG0 w h) : Calls Tryz.prog 6 #[g.v, h.v] w (RetT [.c .bool] fun r w' => r = true ∧ Grow w w') := by
  refine F6_calls g.gn g.gr h.gn h.gr _ _ ?_
  unfold F6
  simp only [deref_some']
  refine St.nw (St.init0 w) fun r w1 s1 _ _ => St.nw s1 fun r1 w2 s2 _ _ => ?_
  have s2 : St noF w w2 [BoxA r1 [slV h.gn, slV h.gr], BoxA r [slV g.gn, slV g.gr]] := s2
  refine jn_of (fun s' W => (s' = false → g.small ∧ h.small) ∧ St noF w W [BoxA r1 [slV h.gn, slV h.gr], BoxA r [slV g.gn, slV g.gr]]) ?_ ?_
  · refine callF_of (Y7 w2 (cell_gro s2.gro hg)) ?_
    rintro _ w3 ⟨rfl, g3⟩
    have s3 := s2.grow g3
    refine br_of (fun h => by cases h) fun _ => ?_
    refine Box.ldA (l := [.slice, .slice]) (p := (g.gn, g.gr)) (s3.bring 1).box ?_
    refine callF_of (Y8' g w3 (h0.grow s3.gro)) ?_
    rintro b w4 ⟨hb, g4⟩
    have s4 := s3.grow g4
    refine br_of (fun _ => ⟨(by intro h; cases h), s4⟩) fun hbf => ?_
    refine Box.ldA (l := [.slice, .slice]) (p := (h.gn, h.gr)) s4.box ?_
    refine callF_of (Y8' h w4 (h1.grow s4.gro)) ?_
    rintro b2 w5 ⟨hb2, g5⟩
    exact ⟨fun h => ⟨hb (by simpa using hbf), hb2 (by simpa using h)⟩, s4.grow g5⟩
  rintro b W ⟨hb, sW⟩
  refine br_of (fun _ => ?_) fun hf => ?_
  · refine callF_of (Y7 W (cell_gro sW.gro hg)) ?_
    rintro _ w2 ⟨rfl, g2⟩
    exact ⟨rfl, (sW.grow g2).gro⟩
  obtain ⟨hs1, hs2⟩ := hb hf
  have hrg : ∀ {W' L}, St noF w W' L → RG W' noF g := fun s => (h0.grow s.gro).rg hs1
  have hrh : ∀ {W' L}, St noF w W' L → RG W' noF h := fun s => (h1.grow s.gro).rg hs2
  refine Box.ldA (l := [.slice, .slice]) (p := (g.gn, g.gr)) (sW.bring 1).box ?_
  refine callF_of (Y10 g W (hrg sW)) fun r1v w3 hP1 => ?_
  obtain ⟨L1, s3, i1, n1, e1⟩ := hP1.out sW
  refine Box.ldA (l := [.slice, .slice]) (p := (h.gn, h.gr)) s3.dropL.box ?_
  refine callF_of (Y10 h w3 (hrh s3)) fun r2v w4 hP2 => ?_
  obtain ⟨L2, s4, i2, n2, e2⟩ := hP2.out s3
  clear hP1 hP2
  obtain ⟨x, v⟩ := r1v
  obtain ⟨y, v2⟩ := r2v
  dsimp only at i1 n1 e1 i2 n2 e2 ⊢
  refine jn_of (fun s' W => s' = !(okG g.m && okG h.m) ∧ W = w4) ?_ ?_
  · refine ⟨i1, br_of (fun hh => ⟨?_, rfl⟩) fun hh => ⟨i2, ?_, rfl⟩⟩
    · rw [n1] at hh
      have : okG g.m = false := by simpa using hh
      rw [this]; rfl
    · rw [n1] at hh
      have : okG g.m = true := by simpa using hh
      rw [this, n2]; simp
  rintro _ w4 ⟨rfl, rfl⟩
  have base : St noF w w4 [BoxA r1 [slV h.gn, slV h.gr], BoxA r [slV g.gn, slV g.gr]] := by
    have := s4.dropL
    exact this.dropL
  have hch : ∀ G : GG, (checkE G != 0) = !okG G := by
    intro G
    unfold checkE
    cases okG G <;> rfl
  refine br_of (fun hbad => ?_) fun hgood => ?_
  · rw [drw_def]
    have s5 := base.drew
    refine ⟨i1, ?_⟩
    refine Box.ldA (l := [.slice, .slice]) (p := (g.gn, g.gr)) (s5.bring 1).box ?_
    refine callF_of (Y19 g _ (hrg s5)) ?_
    rintro _ w6 ⟨rfl, g6⟩
    have s6 := s5.grow g6
    refine ⟨trivial, ?_⟩
    rw [n1, hch]
    refine br_of (fun _ => ⟨i2, ?_⟩) fun h => by simp at h
    refine Box.ldA (l := [.slice, .slice]) (p := (h.gn, h.gr)) s6.box ?_
    refine callF_of (Y19 h _ (hrh s6)) ?_
    rintro _ w7 ⟨rfl, g7⟩
    refine ⟨trivial, ?_, (s6.grow g7).gro⟩
    rw [n2, hch]
    simp
  · have hok : okG g.m = true ∧ okG h.m = true := by simpa using hgood
    rw [e1 hok.1, e2 hok.2] at s4
    have s4 : St noF w w4 [SlA 1 y ((packB (canM h.m)).map ub), SlA 1 x ((packB (canM g.m)).map ub), BoxA r1 [slV h.gn, slV h.gr], BoxA r [slV g.gn, slV g.gr]] := s4
    have hinj := pack_inj (can_tiny hok.1) (can_tiny hok.2)
    generalize packB (canM h.m) = B2 at *
    generalize packB (canM g.m) = B1 at *
    rw [drw_def]
    have st := s4.drew
    have ldr : ∀ {W} (k : Sl × Sl → Pr), St noF w W [SlA 1 y (B2.map ub), SlA 1 x (B1.map ub), BoxA r1 [slV h.gn, slV h.gr], BoxA r [slV g.gn, slV g.gr]] → k (g.gn, g.gr) W → ldA [.slice, .slice] ⟨r, 0, none⟩ k W :=
      fun k s hk => Box.ldA (l := [.slice, .slice]) (p := (g.gn, g.gr)) (s.bring 3).box hk
    have ldr1 : ∀ {W} (k : Sl × Sl → Pr), St noF w W [SlA 1 y (B2.map ub), SlA 1 x (B1.map ub), BoxA r1 [slV h.gn, slV h.gr], BoxA r [slV g.gn, slV g.gr]] → k (h.gn, h.gr) W → ldA [.slice, .slice] ⟨r1, 0, none⟩ k W :=
      fun k s hk => Box.ldA (l := [.slice, .slice]) (p := (h.gn, h.gr)) (s.bring 2).box hk
    have c12 : ∀ {W} (k : Bool → Pr), St noF w W [SlA 1 y (B2.map ub), SlA 1 x (B1.map ub), BoxA r1 [slV h.gn, slV h.gr], BoxA r [slV g.gn, slV g.gr]] → (∀ W', St noF w W' [SlA 1 y (B2.map ub), SlA 1 x (B1.map ub), BoxA r1 [slV h.gn, slV h.gr], BoxA r [slV g.gn, slV g.gr]] → k (decide (B1 = B2)) W') → callF Tryz.prog 12 [.slice x.a x.len x.cap, .slice y.a y.len y.cap] [.c .bool] k W := by
      intro W k s hk
      refine callF_of (Y12 x y B1 B2 W (s.bring 1).sl.bs s.sl.bs) ?_
      rintro _ _ ⟨rfl, rfl⟩
      exact hk _ s
    have c20 : ∀ {W} (k : Bool → Pr), St noF w W [SlA 1 y (B2.map ub), SlA 1 x (B1.map ub), BoxA r1 [slV h.gn, slV h.gr], BoxA r [slV g.gn, slV g.gr]] → (∀ W', St noF w W' [SlA 1 y (B2.map ub), SlA 1 x (B1.map ub), BoxA r1 [slV h.gn, slV h.gr], BoxA r [slV g.gn, slV g.gr]] → k (decide (canM g.m = canM h.m)) W') → callF Tryz.prog 20 [.agg #[.slice g.gn.a g.gn.len g.gn.cap, .slice g.gr.a g.gr.len g.gr.cap], .agg #[.slice h.gn.a h.gn.len h.gn.cap, .slice h.gr.a h.gr.len h.gr.cap]] [.c .bool] k W := by
      intro W k s hk
      refine callF_of (Y20 g h W (hrg s) (hrh s)) ?_
      rintro _ W' ⟨rfl, g'⟩
      rw [hok.1, hok.2, Bool.true_and, Bool.true_and]
      exact hk _ (s.grow g')
    have fin : ∀ {W}, St noF w W [SlA 1 y (B2.map ub), SlA 1 x (B1.map ub), BoxA r1 [slV h.gn, slV h.gr], BoxA r [slV g.gn, slV g.gr]] → ((decide (B1 = B2) == decide (canM g.m = canM h.m)) = true ∧ Grow w W) := by
      intro W s
      refine ⟨?_, s.gro⟩
      rw [beq_iff_eq]
      exact decide_eq_decide.2 hinj
    repeat' first
      | with_reducible refine both_of ?_ ?_
      | with_reducible refine owe_of trivial ?_
      | with_reducible refine ldr _ st ?_
      | with_reducible refine ldr1 _ st ?_
      | with_reducible refine c12 _ st fun _ st => ?_
      | with_reducible refine c20 _ st fun _ st => ?_
      | exact fin st
end Go.Proofs

/-! ArchiveUnpacks. -/
set_option maxRecDepth 20000
namespace Go.Proofs
open Go.Eng

theorem gax_nil {F0 : Nat → Prop} {w0 w : World} {L : List HA} (h : St F0 w0 w L) : St F0 w0 w (GAx ⟨⟨none, 0, 0⟩, ⟨none, 0, 0⟩, [], []⟩ :: L) :=
  GAx.mk (((h.nosl 2).nobig).nosl 3)
theorem nil_small : (GS.mk ⟨none, 0, 0⟩ ⟨none, 0, 0⟩ [] []).small := ⟨by simp, by simp, by simp, by simp, by simp⟩

/-- what was unpacked, in one way -/
noncomputable def unG (l : List UInt8) : GG := match unpackM l with
  | .ok G => G
  | .error _ => ⟨[], []⟩
noncomputable def unE (l : List UInt8) : Int × Int := match unpackM l with
  | .ok _ => (0, 0)
  | .error (e, n) => ((e : Int), n)

theorem unE_ne {l : List UInt8} {e : Nat} {n : Int} (h : unpackM l = .error (e, n)) : n ≠ 0 := by
  unfold unpackM at h
  split at h
  · simp only [Except.error.injEq, Prod.mk.injEq] at h; omega
  split at h
  · simp only [Except.error.injEq, Prod.mk.injEq] at h; omega
  split at h
  · simp only [Except.error.injEq, Prod.mk.injEq] at h; omega
  · split at h
    · cases h
    · simp only [Except.error.injEq, Prod.mk.injEq] at h; omega
theorem PostUn.out {l : List UInt8} {w w0 W : World} {L : List HA} {r : (Sl × Sl) × Value} (h : PostUn l w r W) (s : St noF w0 w L) :
    ∃ x : GS, x.m = unG l ∧ x.small ∧ r.1 = (x.gn, x.gr) ∧ ((r.2 = .nilIface ∧ unE l = (0, 0) ∧ St noF w0 W (GAx x :: L)) ∨ ∃ b, r.2 = .iface 96 (.pointer (some ⟨b, 0, none⟩)) ∧ (unE l).2 ≠ 0 ∧ St noF w0 W (BadA b (unE l).1 (unE l).2 :: GAx x :: L)) := by
  rcases h with ⟨x, hx, h1, h2, hs, k⟩ | ⟨e, n, b, hx, h1, h2, k⟩
  · exact ⟨x, by unfold unG; rw [hx], hs, h1, .inl ⟨h2, by unfold unE; rw [hx], s.call0 k⟩⟩
  · refine ⟨⟨⟨none, 0, 0⟩, ⟨none, 0, 0⟩, [], []⟩, by unfold unG; rw [hx]; rfl, nil_small, h1, .inr ⟨b, h2, ?_⟩⟩
    have e1 : unE l = ((e : Int), n) := by unfold unE; rw [hx]
    rw [e1]
    exact ⟨unE_ne hx, (gax_nil (s.call0 k)).bring 1⟩
theorem PostUnR.out {l : List UInt8} {w w0 W : World} {L : List HA} {r : (Sl × Sl) × Int × Int} (h : PostUnR l w r W) (s : St noF w0 w L) :
    ∃ x : GS, x.m = unG l ∧ x.small ∧ r.1 = (x.gn, x.gr) ∧ r.2 = unE l ∧ St noF w0 W (GAx x :: L) := by
  rcases h with ⟨x, hx, h1, h2, hs, k⟩ | ⟨e, n, hx, h1, h2, k⟩
  · exact ⟨x, by unfold unG; rw [hx], hs, h1, by unfold unE; rw [hx]; exact h2, s.call0 k⟩
  · exact ⟨⟨⟨none, 0, 0⟩, ⟨none, 0, 0⟩, [], []⟩, by unfold unG; rw [hx]; rfl, nil_small, h1, by unfold unE; rw [hx]; exact h2, gax_nil (s.grow k)⟩


theorem law4 (s : Sl) (l : List UInt8) (w : World) (hg : w.cell? ⟨0, 0, none⟩ = some (tyV 31)) (hs : BS w s l) (hc : s.len ≤ s.cap) : Calls Tryz.prog 4 #[slV s] w (RetT [.c .bool] fun r w' => r = true ∧ Grow w w') := by
  refine F4_calls s _ _ ?_
  unfold F4
  simp only [deref_some']
  have hsl := hs.len
  refine jn_of (fun s' W => (s' = false → l.length ≤ 20000) ∧ St noF w W []) ?_ ?_
  · refine callF_of (Y7 w hg) ?_
    rintro _ w3 ⟨rfl, g3⟩
    have s3 := (St.init0 w).grow g3
    refine br_of (fun h => by cases h) fun _ => ⟨fun h => ?_, s3⟩
    simp only [decide_eq_false_iff_not] at h
    omega
  rintro b W ⟨hb, sW⟩
  refine br_of (fun _ => ?_) fun hf => ?_
  · refine callF_of (Y7 W (cell_gro sW.gro hg)) ?_
    rintro _ w2 ⟨rfl, g2⟩
    exact ⟨rfl, (sW.grow g2).gro⟩
  have hll := hb hf
  refine callF_of (Y15 s l W (hs.grow sW.gro) (by omega)) fun t w1 k1 => ?_
  have s1 := sW.call0 k1
  have s1 : St noF w w1 [SlA 1 t (l.map ub)] := s1
  refine callF_of (Y16 s l w1 (hs.grow s1.gro) hc (by omega)) fun r1 w2 hP => ?_
  obtain ⟨x, hxm, hxs, hx1, hx2⟩ := hP.out s1
  obtain ⟨⟨xn, xr⟩, v⟩ := r1
  simp only [Prod.mk.injEq] at hx1
  obtain ⟨rfl, rfl⟩ := hx1
  dsimp only at hx2 ⊢
  clear hP
  obtain ⟨T0, s2, hv⟩ : ∃ T0, St noF w w2 (GAx x :: SlA 1 t (l.map ub) :: T0) ∧ ((v = .nilIface ∧ unE l = (0, 0)) ∨ ∃ b, v = .iface 96 (.pointer (some ⟨b, 0, none⟩)) ∧ (unE l).2 ≠ 0 ∧ T0 = [BadA b (unE l).1 (unE l).2]) := by
    rcases hx2 with ⟨h1, h2, k⟩ | ⟨b, h1, h2, k⟩
    · exact ⟨[], k, .inl ⟨h1, h2⟩⟩
    · exact ⟨_, k.sel [1, 2, 0] 3, .inr ⟨b, h1, h2, rfl⟩⟩
  clear hx2
  refine St.nw s2 fun r w3 s3 _ _ => s3.st (i := 0) (by simp) trivial fun w4 s4 => s4.st (i := 1) (by simp) trivial fun w5 s5 => ?_
  have s5 : St noF w w5 (BoxA r [slV x.gn, slV x.gr] :: GAx x :: SlA 1 t (l.map ub) :: T0) := s5
  refine callF_of (Y17 s l w5 (hs.grow s5.gro) hc (by omega)) fun r2 w6 hQ => ?_
  obtain ⟨y, hym, hys, hy1, hy2, s6⟩ := hQ.out s5
  obtain ⟨⟨yn, yr⟩, fe⟩ := r2
  simp only [Prod.mk.injEq] at hy1
  obtain ⟨rfl, rfl⟩ := hy1
  dsimp only at hy2 ⊢
  subst hy2
  refine St.nw s6 fun rb w7 s7 _ _ => St.nw s7 fun rc w8 s8 _ _ => (s8.bring 1).st (i := 0) (by simp) trivial fun w9 s9 => s9.st (i := 1) (by simp) trivial fun w10 s10 => (s10.bring 1).st (i := 0) (by simp) trivial fun w11 s11 => s11.st (i := 1) (by simp) trivial fun w12 s12 => ?_
  have s12 : St noF w w12 (BoxA rc [.int .i64 (unE l).1, .int .i64 (unE l).2] :: BoxA rb [slV y.gn, slV y.gr] :: GAx y :: BoxA r [slV x.gn, slV x.gr] :: GAx x :: SlA 1 t (l.map ub) :: T0) := s12
  refine jn_of (fun s' W' => s' = false ∧ ∃ T, St noF w W' (BoxA r [slV x.gn, slV x.gr] :: GAx x :: SlA 1 t (l.map ub) :: T)) ?_ ?_
  · refine Box.ldA (l := [.slice, .slice]) (p := (x.gn, x.gr)) (s12.bring 3).box ?_
    refine Box.ldA (l := [.slice, .slice]) (p := (y.gn, y.gr)) (s12.bring 1).box ?_
    refine callF_of (Y14 x y w12 (St.rg (s12.bring 4) hxs) (St.rg (s12.bring 2) hys)) ?_
    rintro _ w13 ⟨rfl, g13⟩
    have s13 := s12.grow g13
    rw [hxm, hym]
    refine br_of (fun h => by simp at h) fun _ => ?_
    refine Box.ldA (l := [.int .i64, .int .i64]) (p := ((unE l).1, (unE l).2)) s13.box ?_
    rcases hv with ⟨rfl, hu⟩ | ⟨b, rfl, hne, rfl⟩
    · rw [hu]
      rw [hu] at s13
      refine is13_nil (e := 0) (n := 0) s13 fun w14 s14 => ⟨by simp, T0, ?_⟩
      exact s14.sel [3, 4, 5] 6
    · refine is13 hg hne (s13.bring 6) fun w14 s14 => ⟨by simp, [], ?_⟩
      exact s14.sel [4, 5, 6] 7
  rintro _ W2 ⟨rfl, T, sA⟩
  refine br_of (fun h => by cases h) fun _ => ?_
  refine sA.ld (i := 0) (s := .slice) (p := x.gn) rfl ?_
  have sB := GAx.un (sA.bring 1)
  have sB : St noF w W2 (SlA 3 x.gn (x.xs.flatMap ncells) :: bigA (x.xs.map nodeA) :: SlA 2 x.gr (x.rs.flatMap rcellsM) :: BoxA r [slV x.gn, slV x.gr] :: SlA 1 t (l.map ub) :: T) := sB
  have hnl := sB.sl.len
  rw [nfl] at hnl
  have hxl := hxs.nl
  -- all data is turned
  refine loop_of (fun z W => ∃ i : Nat, z = (i : Int) ∧ i ≤ x.xs.length ∧ ∃ T, St noF w W (SlA 3 x.gn (x.xs.flatMap ncells) :: bigA ((x.xs.drop i).map nodeA) :: BoxA r [slV x.gn, slV x.gr] :: SlA 1 t (l.map ub) :: T))
    (fun z _ => x.xs.length - z.toNat) ⟨0, rfl, by omega, _, by rw [List.drop_zero]; exact sB.sel [0, 1, 3, 4, 2] 5⟩ ?_
  clear sA sB
  rintro _ W3 ⟨i, rfl, hi, T, sC⟩
  refine br_of (fun hlt => ?_) fun hge => ?_
  · simp only [decide_eq_true_eq] at hlt
    have hil : i < x.xs.length := by omega
    have hxi : x.xs[i]? = some x.xs[i] := by simp [hil]
    have hdr : x.xs.drop i = x.xs[i] :: x.xs.drop (i + 1) := List.drop_eq_getElem_cons hil
    have hdl := hxs.dl _ (List.getElem_mem hil)
    generalize x.xs[i] = y at hxi hdr hdl
    rw [hdr] at sC
    have sD := (nodes_take (k := 0) (y := y) (sC.bring 1) rfl).big
    have sD : St noF w W3 (SlA 1 y.ps (y.p.map iv) :: SlA 1 y.ds (y.d.map ub) :: bigA ((x.xs.drop (i + 1)).map nodeA) :: SlA 3 x.gn (x.xs.flatMap ncells) :: BoxA r [slV x.gn, slV x.gr] :: SlA 1 t (l.map ub) :: T) := sD
    have rdn : ∀ {W A B C L} (k : Sl → Pr), St noF w W (A :: B :: C :: SlA 3 x.gn (x.xs.flatMap ncells) :: L) → k y.ds W → (deref x.gn.a fun a => ldC .slice ((a.add (i * 3)).add 2) k) W := by
      intro W A B C L k s' hk
      obtain ⟨ad, ha, hr⟩ := SS.get (n := 3) ncells_len (show SS ncells W x.gn x.xs from OwnS.ss ncells_len (by decide) (s'.bring 3).sl) hxi (by decide)
      rw [ha, deref_some']
      exact ldC_of (s := .slice) (p := y.ds) (hr.get (j := 2) rfl) hk
    refine (sD.bring 4).ld (i := 0) (s := .slice) (p := x.gn) rfl ⟨⟨by omega, by omega⟩, ?_⟩
    rw [Int.toNat_natCast]
    refine rdn _ sD ?_
    have hyl := slA_len1 (sD.bring 1).sl
    rw [List.length_map] at hyl
    refine loop_of (fun z W => ∃ (j : Nat) (vs : List Value), z = (j : Int) ∧ j ≤ y.d.length ∧ vs.length = y.d.length ∧ (∀ v ∈ vs, ∃ n, v = .int .u8 n) ∧ St noF w W (SlA 1 y.ds vs :: SlA 1 y.ps (y.p.map iv) :: bigA ((x.xs.drop (i + 1)).map nodeA) :: SlA 3 x.gn (x.xs.flatMap ncells) :: BoxA r [slV x.gn, slV x.gr] :: SlA 1 t (l.map ub) :: T))
      (fun z _ => y.d.length - z.toNat) ⟨0, _, rfl, by omega, by simp, by intro v hv; obtain ⟨c, _, rfl⟩ := List.mem_map.1 hv; exact ⟨_, rfl⟩, sD.bring 1⟩ ?_
    rintro _ W4 ⟨j, vs, rfl, hj, hvl, hvs, sE⟩
    refine br_of (fun hlt2 => ?_) fun hge2 => ?_
    · simp only [decide_eq_true_eq] at hlt2
      have hjl : j < vs.length := by omega
      refine (sE.bring 4).ld (i := 0) (s := .slice) (p := x.gn) rfl ⟨⟨by omega, by omega⟩, ?_⟩
      rw [Int.toNat_natCast]
      refine rdn _ sE ⟨⟨by omega, by omega⟩, ?_⟩
      obtain ⟨n, hn⟩ := hvs _ (List.getElem_mem hjl)
      obtain ⟨ad, had, hld⟩ := sE.get (i := j) (c := .int .u8) (p := n) (k := fun (t64 : Int) w' => ∃ z : Int, z = t64 ∧ w' = W4) (by rw [List.getElem?_eq_getElem hjl, hn]; rfl) ⟨n, rfl, rfl⟩
      obtain ⟨p, hcell, z, hz, hw⟩ := hld
      rw [had, deref_some', Nat.mul_one]
      refine ldC_of (s := .int .u8) (p := p) hcell ⟨⟨by omega, by omega⟩, ?_⟩
      rw [deref_some']
      obtain ⟨ad2, had2, hst⟩ := sE.put (i := j) (v := .int .u8 (bXor .u8 p 255)) hjl trivial (k := fun w' => (fun s' w'' => (∃ (j : Nat) (vs : List Value), s' = (j : Int) ∧ j ≤ y.d.length ∧ vs.length = y.d.length ∧ (∀ v ∈ vs, ∃ n, v = .int .u8 n) ∧ St noF w w'' (SlA 1 y.ds vs :: SlA 1 y.ps (y.p.map iv) :: bigA ((x.xs.drop (i + 1)).map nodeA) :: SlA 3 x.gn (x.xs.flatMap ncells) :: BoxA r [slV x.gn, slV x.gr] :: SlA 1 t (l.map ub) :: T)) ∧ y.d.length - s'.toNat < y.d.length - (j : Int).toNat) ((j : Int) + 1) w') fun W5 sF => by
        refine ⟨⟨j + 1, vs.set j (.int .u8 (bXor .u8 p 255)), rfl, by omega, by simpa using hvl, fun v hv => ?_, sF⟩, by omega⟩
        rcases List.mem_or_eq_of_mem_set hv with h | h
        · exact hvs v h
        · exact ⟨_, h⟩
      rw [had] at had2
      simp only [Option.some.injEq] at had2
      subst had2
      rw [succ_i64 (by omega)]
      exact hst
    · rw [succ_i64 (by omega)]
      exact ⟨⟨i + 1, rfl, by omega, _, sE.sel [3, 2, 4, 5, 0, 1] 6⟩, by omega⟩
  · refine callF_of (Y12 s t l l W3 (hs.grow sC.gro) (sC.bring 3).sl.bs) ?_
    rintro _ _ ⟨rfl, rfl⟩
    exact ⟨by simp, sC.gro⟩
end Go.Proofs

/-! What comes of a graph that may be, may be. -/
set_option maxRecDepth 20000
namespace Go.Proofs
open Go.Eng

theorem ok_parts {G : GG} : okG G = true ↔ G.n.length ≤ 8192 ∧ G.r.length ≤ 512 ∧ (∀ n ∈ G.n, nodeM G.n.length n = true) ∧ ∀ i, i < G.r.length → rootM G.r G.n.length i = true := by
  unfold okG
  simp only [Bool.and_eq_true, decide_eq_true_eq, List.all_eq_true, List.mem_range]
  constructor
  · rintro ⟨⟨⟨a, b⟩, c⟩, d⟩; exact ⟨a, b, c, d⟩
  · rintro ⟨a, b, c, d⟩; exact ⟨⟨⟨a, b⟩, c⟩, d⟩

/-- names are kept, numbers are in range: such roots may be -/
theorem rootM_map {rs : List RM} {f : RM → Int} {m m' i : Nat} (h : rootM rs m i = true) (hf : ∀ r ∈ rs, 0 ≤ f r ∧ f r < m') : rootM (rs.map fun r => (r.1, f r)) m' i = true := by
  unfold rootM at h ⊢
  rw [List.getElem?_map]
  cases hr : rs[i]? with
  | none => rfl
  | some r =>
    rw [hr] at h
    have hm := hf r (List.mem_of_getElem? hr)
    have e : (((rs.map fun r => (r.1, f r))[i - 1]?).map (·.1)) = (rs[i - 1]?).map (·.1) := by
      rw [List.getElem?_map, Option.map_map]
      rfl
    dsimp only [Option.map_some] at h ⊢
    rw [e]
    simp only [Bool.and_eq_true, decide_eq_true_eq] at h ⊢
    exact ⟨⟨h.1.1, hm.1⟩, hm.2⟩

theorem ok_num {G : GG} {l : List Int} (h : okG G = true) (hl : NumOk G l) : okG (numM G l) = true := by
  have hp := ok_parts.1 h
  have hle := hl.le
  refine ok_parts.2 ⟨by simp only [numM, List.length_map]; omega, by simpa [numM] using hp.2.1, fun n hn => ?_, fun i hi => ?_⟩
  · simp only [numM, List.mem_map] at hn
    obtain ⟨x, hx, rfl⟩ := hn
    have hr := hl.rng x hx
    have hm := nodeAt_mem (G := G) (x := x) (by omega)
    have hc := hl.cl x hx
    have hk := hp.2.2.1 _ hm
    have hpp := (okG_node h hm).2
    unfold nodeM at hk ⊢
    rw [Bool.and_eq_true] at hk ⊢
    refine ⟨by simpa [renN] using hk.1, ?_⟩
    rw [List.all_eq_true]
    intro q hq
    simp only [renN, List.mem_map] at hq
    obtain ⟨p, hp', rfl⟩ := hq
    unfold ptrM renP
    simp only [numM, List.length_map, Bool.and_eq_true, decide_eq_true_eq]
    have := (hpp p hp').1
    split
    · rename_i h0
      have := idxL_lt (hc p hp' h0)
      omega
    · omega
  · have hi' : i < G.r.length := by simpa [numM] using hi
    have := rootM_map (f := fun r => (idxL l r.2 : Int)) (m' := (numM G l).n.length) (hp.2.2.2 i hi') fun r hr => by
      have := idxL_lt (hl.rt r hr)
      simp only [numM, List.length_map]
      omega
    exact this

theorem ok_kept {G : GG} (h : okG G = true) : okG (keptG G) = true := by
  have hp := ok_parts.1 h
  refine ok_parts.2 ⟨by simpa [keptG] using hp.1, hp.2.1, fun n hn => ?_, by simpa [keptG] using hp.2.2.2⟩
  simp only [keptG, List.mem_map] at hn
  obtain ⟨y, hy, rfl⟩ := hn
  have hk := hp.2.2.1 y hy
  have hpp := (okG_node h hy).2
  unfold nodeM at hk ⊢
  rw [Bool.and_eq_true] at hk ⊢
  refine ⟨by simpa [keptM] using hk.1, ?_⟩
  rw [List.all_eq_true]
  intro q hq
  simp only [keptM, List.mem_map] at hq
  obtain ⟨p, hp', rfl⟩ := hq
  have := hpp p hp'
  unfold ptrM
  simp only [keptG, List.length_map, Bool.and_eq_true, decide_eq_true_eq]
  split <;> omega

theorem ok_cleared {G : GG} (h : okG G = true) : okG (clearedM G) = true := ok_num (ok_kept h) (numOk_kept h)
theorem ok_can {G : GG} (h : okG G = true) : okG (canM G) = true := ok_num (ok_cleared h) (numOk_canon (cleared_wf h))
end Go.Proofs

/-! Reach, of what comes of a graph. -/
set_option maxRecDepth 20000
namespace Go.Proofs
open Go.Eng

/-- what is reached stays reached, where live nodes are kept as they are -/
theorem rch_num {A K : GG} {l : List Int} (hl : NumOk K l) (hlen : K.n.length = A.n.length) (hr : K.r = A.r) (hin : ∀ i : Nat, Rch A i → (i : Int) ∈ l)
    (hk : ∀ (i : Nat) (n : GN), A.n[i]? = some n → (n.k = 1 ∨ (n.k = 3 ∧ ∃ q, n.p.head? = some q ∧ 0 ≤ q ∧ Rch A q.toNat)) → nodeAt K (i : Int) = n) :
    ∀ {i : Nat}, Rch A i → Rch (numM K l) (idxL l (i : Int)) := by
  have hat : ∀ (i : Nat) (n : GN), Rch A i → A.n[i]? = some n → (numM K l).n[idxL l (i : Int)]? = some (renN l (nodeAt K (i : Int))) := by
    intro i n h _
    have := idxL_get (hin i h)
    simp only [numM, List.getElem?_map, this, Option.map_some]
  intro i h
  induction h with
  | root hm =>
    rename_i r
    have h0 := (hl.rng r.2 (hl.rt r (by rw [hr]; exact hm))).1
    have hm2 : (r.1, (idxL l r.2 : Int)) ∈ (numM K l).r := List.mem_map.2 ⟨r, by rw [hr]; exact hm, rfl⟩
    have := Rch.root (G := numM K l) hm2
    rw [show ((r.2.toNat : Nat) : Int) = r.2 by omega]
    simpa using this
  | plain hi hn h1 hp h0 ih =>
    rename_i i n p
    have e := hk i n hn (.inl h1)
    have hg := hat i n hi hn
    rw [e] at hg
    have hpm : renP l p ∈ (renN l n).p := List.mem_map.2 ⟨p, hp, rfl⟩
    have hrp : renP l p = (idxL l p : Int) := by unfold renP; rw [if_pos h0]
    rw [hrp] at hpm
    have := Rch.plain (G := numM K l) ih hg h1 hpm (by omega)
    rw [show ((p.toNat : Nat) : Int) = p by omega]
    simpa using this
  | pair hi hn h3 hq hq0 hqr hp h0 ih ihq =>
    rename_i i n q p
    have e := hk i n hn (.inr ⟨h3, q, hq, hq0, hqr⟩)
    have hg := hat i n hi hn
    rw [e] at hg
    have hpm : renP l p ∈ (renN l n).p := List.mem_map.2 ⟨p, hp, rfl⟩
    have hrp : renP l p = (idxL l p : Int) := by unfold renP; rw [if_pos h0]
    rw [hrp] at hpm
    have hrq : renP l q = (idxL l q : Int) := by unfold renP; rw [if_pos hq0]
    have hhd : (renN l n).p.head? = some (idxL l q : Int) := by
      show (n.p.map (renP l)).head? = _
      rw [List.head?_map, hq, Option.map_some, hrq]
    rw [show ((q.toNat : Nat) : Int) = q by omega] at ihq
    have := Rch.pair (G := numM K l) ih hg h3 hhd (by omega) (by simpa using ihq) hpm (by omega)
    rw [show ((p.toNat : Nat) : Int) = p by omega]
    simpa using this

theorem kept_live {G : GG} {i : Nat} {n : GN} (hok : okG G = true) (hn : G.n[i]? = some n) (h : n.k = 1 ∨ (n.k = 3 ∧ ∃ q, n.p.head? = some q ∧ 0 ≤ q ∧ Rch G q.toNat)) : nodeAt (keptG G) (i : Int) = n := by
  have hil := (List.getElem?_eq_some_iff.1 hn).1
  have e : nodeAt (keptG G) (i : Int) = keptM (reachM G) n := by
    unfold nodeAt keptG
    simp only [List.getElem?_map, Int.toNat_natCast, hn, Option.map_some, Option.getD_some]
  rw [e]
  have hall : allM (reachM G) n = false := by
    unfold allM
    rcases h with h1 | ⟨h3, q, hq, h0, hr⟩
    · rw [decide_eq_false (by omega)]; rfl
    · rw [decide_eq_true h3, Bool.true_and]
      have hqm : q ∈ n.p := List.mem_of_mem_head? (by rw [hq]; rfl)
      have hql := ((okG_node hok (List.mem_of_getElem? hn)).2 q hqm).2
      have hs := (reachM_at G q.toNat (by omega)).2 hr
      cases hp : n.p with
      | nil => rw [hp] at hq; cases hq
      | cons a t =>
        rw [hp, List.head?_cons, Option.some.injEq] at hq
        subst hq
        rw [List.headD_cons]
        unfold goneM
        rw [hs, decide_eq_false (by omega)]
        rfl
  have hk2 : decide (n.k = 2) = false := by
    rw [decide_eq_false_iff_not]
    rcases h with h1 | ⟨h3, _⟩ <;> omega
  unfold keptM
  simp only [hall, hk2, Bool.false_and, Bool.or_false]
  cases n
  simp

/-- all of a cleared graph is reached -/
theorem cleared_all {G : GG} (hok : okG G = true) : ∀ j, j < (clearedM G).n.length → Rch (clearedM G) j := by
  have hl := numOk_kept hok
  have hin : ∀ i, Rch G i → i < G.n.length → (i : Int) ∈ keptL (reachM G) := fun i hi hil => keptL_mem.2 ⟨by omega, by simpa using (reachM_at G i hil).2 hi⟩
  have hlt : ∀ i, Rch G i → i < G.n.length := by
    intro i hi
    induction hi with
    | root hm => have := (okG_root hok hm).2; omega
    | plain _ hn _ hp h0 _ => have := ((okG_node hok (List.mem_of_getElem? hn)).2 _ hp).2; omega
    | pair _ hn _ _ _ _ hp h0 _ _ => have := ((okG_node hok (List.mem_of_getElem? hn)).2 _ hp).2; omega
  have hreach := fun {i} => rch_num (A := G) (i := i) hl (by simp [keptG]) rfl (fun i hi => hin i hi (hlt i hi)) fun i n hn h => kept_live hok hn h
  intro j hj
  have hjl : j < (keptL (reachM G)).length := by simpa [clearedM, numM] using hj
  have hx := List.getElem?_eq_getElem hjl
  have hm := List.getElem_mem hjl
  obtain ⟨h0, h1⟩ := keptL_mem.1 hm
  have hr := reachM_sound G _ h1
  have h2 := hreach hr
  rw [show (((keptL (reachM G))[j].toNat : Nat) : Int) = (keptL (reachM G))[j] by omega, idxL_at hl.nod hx] at h2
  exact h2
end Go.Proofs

/-! A cleared graph is cleared. -/
set_option maxRecDepth 20000
namespace Go.Proofs
open Go.Eng

/-- a pair without a key has no pointers -/
def Kill (G : GG) : Prop := ∀ n ∈ G.n, n.k = 3 → n.p.headD (-1) < 0 → ∀ p ∈ n.p, p = -1

theorem renP_neg {l : List Int} {p : Int} : renP l p < 0 ↔ p < 0 := by
  unfold renP
  split <;> omega
theorem headD_map (l : List Int) (ps : List Int) : (ps.map (renP l)).headD (-1) < 0 ↔ ps.headD (-1) < 0 := by
  cases ps with
  | nil => simp
  | cons a t => simp only [List.map_cons, List.headD_cons]; exact renP_neg

theorem kill_num {G : GG} {l : List Int} (hl : NumOk G l) (h : Kill G) : Kill (numM G l) := by
  intro n hn h3 hd p hp
  simp only [numM, List.mem_map] at hn
  obtain ⟨x, hx, rfl⟩ := hn
  have hr := hl.rng x hx
  simp only [renN, List.mem_map] at hp
  obtain ⟨q, hq, rfl⟩ := hp
  have := h _ (nodeAt_mem (G := G) (x := x) (by omega)) h3 ((headD_map _ _).1 hd) q hq
  subst this
  rfl

theorem kill_kept {G : GG} (hok : okG G = true) : Kill (keptG G) := by
  intro n hn h3 hd p hp
  simp only [keptG, List.mem_map] at hn
  obtain ⟨y, hy, rfl⟩ := hn
  have h3 : y.k = 3 := h3
  by_cases ha : allM (reachM G) y = true
  · simp only [keptM, List.mem_map] at hp
    obtain ⟨q, hq, rfl⟩ := hp
    rw [ha, Bool.true_or, if_pos rfl]
  · exfalso
    have ha : allM (reachM G) y = false := by simpa using ha
    have hk2 : decide (y.k = 2) = false := by rw [decide_eq_false_iff_not]; omega
    have e : (keptM (reachM G) y).p = y.p := by
      unfold keptM
      simp [ha, hk2]
    rw [e] at hd
    unfold allM goneM at ha
    rw [decide_eq_true h3, Bool.true_and, Bool.or_eq_false_iff, decide_eq_false_iff_not] at ha
    omega

theorem range_idx {n i : Nat} (h : i < n) : idxL ((List.range n).map Int.ofNat) (i : Int) = i := by
  refine idxL_at ?_ ?_
  · unfold List.Nodup
    rw [List.pairwise_map]
    exact List.nodup_range.imp fun {a b} h he => h (Int.ofNat.inj he)
  · rw [List.getElem?_map, List.getElem?_range h]
    rfl

/-- numbering in order -/
theorem numM_id {G : GG} (hw : WfG G) (hm : ∀ n ∈ G.n, ∀ p ∈ n.p, -1 ≤ p) : numM G ((List.range G.n.length).map Int.ofNat) = G := by
  have hren : ∀ n ∈ G.n, renN ((List.range G.n.length).map Int.ofNat) n = n := by
    intro n hn
    have : n.p.map (renP ((List.range G.n.length).map Int.ofNat)) = n.p := by
      conv => rhs; rw [← List.map_id n.p]
      apply List.map_congr_left
      intro p hp
      have h1 := hw.p n hn p hp
      unfold renP
      split
      · have := range_idx (n := G.n.length) (i := p.toNat) (by omega)
        rw [show ((p.toNat : Nat) : Int) = p by omega] at this
        rw [this]
        show ((p.toNat : Nat) : Int) = p
        omega
      · rfl
    unfold renN
    rw [this]
  unfold numM
  have e1 : (((List.range G.n.length).map Int.ofNat).map fun x => renN ((List.range G.n.length).map Int.ofNat) (nodeAt G x)) = G.n := by
    refine List.ext_getElem (by simp) fun i h1 h2 => ?_
    rw [List.getElem_map, List.getElem_map, List.getElem_range]
    have : nodeAt G (Int.ofNat i) = G.n[i] := by
      unfold nodeAt
      show (G.n[i]?).getD _ = _
      rw [List.getElem?_eq_getElem h2]
      rfl
    rw [this]
    exact hren _ (List.getElem_mem h2)
  have e2 : (G.r.map fun r => (r.1, (idxL ((List.range G.n.length).map Int.ofNat) r.2 : Int))) = G.r := by
    conv => rhs; rw [← List.map_id G.r]
    apply List.map_congr_left
    intro r hr
    have h1 := hw.r r hr
    have := range_idx (n := G.n.length) (i := r.2.toNat) (by omega)
    rw [show ((r.2.toNat : Nat) : Int) = r.2 by omega] at this
    rw [this]
    show (r.1, ((r.2.toNat : Nat) : Int)) = r
    rw [show ((r.2.toNat : Nat) : Int) = r.2 by omega]
  rw [e1, e2]

/-- a graph of which all is reached, and nothing to clear, is cleared -/
theorem cleared_id {G : GG} (hok : okG G = true) (hall : ∀ j, j < G.n.length → Rch G j) (hkill : Kill G) : clearedM G = G := by
  have hreach : reachM G = List.replicate G.n.length true := by
    refine List.ext_getElem (by simp) fun i h1 h2 => ?_
    have hi : i < G.n.length := by simpa using h1
    have := (reachM_at G i hi).2 (hall i hi)
    rw [List.getElem?_eq_getElem h1, Option.some.injEq] at this
    rw [this, List.getElem_replicate]
  have hlist : keptL (reachM G) = (List.range G.n.length).map Int.ofNat := by
    unfold keptL
    rw [reachM_len]
    congr 1
    rw [List.filter_eq_self]
    intro i hi
    rw [List.mem_range] at hi
    rw [(reachM_at G i hi).2 (hall i hi)]
    rfl
  have hng : ∀ n ∈ G.n, ∀ p ∈ n.p, goneM (reachM G) p = true → p = -1 := by
    intro n hn p hp hgone
    have hb := (okG_node hok hn).2 p hp
    unfold goneM at hgone
    rcases Int.lt_or_le p 0 with h | h
    · omega
    · have := (reachM_at G p.toNat (by omega)).2 (hall _ (by omega))
      rw [this, decide_eq_false (by omega)] at hgone
      cases hgone
  have hkept : keptG G = G := by
    unfold keptG
    have : G.n.map (keptM (reachM G)) = G.n := by
      conv => rhs; rw [← List.map_id G.n]
      apply List.map_congr_left
      intro n hn
      have hp : (n.p.map fun p => if allM (reachM G) n || decide (n.k = 2) && goneM (reachM G) p then -1 else p) = n.p := by
        conv => rhs; rw [← List.map_id n.p]
        apply List.map_congr_left
        intro p hp
        show (if _ then (-1 : Int) else p) = p
        split
        · rename_i hc
          rw [Bool.or_eq_true, Bool.and_eq_true] at hc
          rcases hc with hc | hc
          · unfold allM at hc
            rw [Bool.and_eq_true, decide_eq_true_eq] at hc
            have hd : n.p.headD (-1) < 0 := by
              cases hl : n.p with
              | nil => simp
              | cons a t =>
                rw [hl, List.headD_cons] at hc
                have := hng n hn a (by rw [hl]; simp) hc.2
                simp only [List.headD_cons]
                omega
            exact (hkill n hn hc.1 hd p hp).symm
          · exact (hng n hn p hp hc.2).symm
        · rfl
      show keptM (reachM G) n = n
      unfold keptM
      rw [hp]
    rw [this]
  unfold clearedM
  rw [hkept, hlist]
  exact numM_id (okG_wf hok) fun n hn p hp => ((okG_node hok hn).2 p hp).1

theorem cleared_cleared {G : GG} (hok : okG G = true) : clearedM (clearedM G) = clearedM G :=
  cleared_id (ok_cleared hok) (cleared_all hok) (kill_num (numOk_kept hok) (kill_kept hok))
end Go.Proofs

/-! A canonical graph is canonical. -/
set_option maxRecDepth 20000
namespace Go.Proofs
open Go.Eng

theorem meet1_list {n : Nat} {st : MS2} (hm : Met n st) {p : Int} (hp : p < n) : (meet1 st p).2 = if 0 ≤ p ∧ p ∉ st.2 then st.2 ++ [p] else st.2 := by
  unfold meet1
  have e : (0 ≤ p ∧ st.1[p.toNat]? = some false) ↔ (0 ≤ p ∧ p ∉ st.2) := by
    constructor
    · rintro ⟨h0, h1⟩
      refine ⟨h0, fun hin => ?_⟩
      have := (hm.mem p hin).2
      rw [h1] at this; cases this
    · rintro ⟨h0, h1⟩
      refine ⟨h0, ?_⟩
      have hlt : p.toNat < st.1.length := by rw [hm.len]; omega
      rw [List.getElem?_eq_getElem hlt]
      cases hb : st.1[p.toNat] with
      | false => rfl
      | true => exact absurd (hm.in h0 (by rw [List.getElem?_eq_getElem hlt, hb])) h1
  by_cases hc : 0 ≤ p ∧ p ∉ st.2
  · rw [if_pos (e.2 hc), if_pos hc]
  · rw [if_neg (fun h => hc (e.1 h)), if_neg hc]

/-- the search, and its image -/
structure Img (n m : Nat) (L : List Int) (st st' : MS2) : Prop where
  a : Met n st
  b : Met m st'
  sub : ∀ x ∈ st.2, x ∈ L
  map : st'.2 = st.2.map fun p => (idxL L p : Int)

theorem idx_inj {L : List Int} (hn : L.Nodup) {p q : Int} (hp : p ∈ L) (hq : q ∈ L) (h : idxL L p = idxL L q) : p = q := by
  have h1 := idxL_get hp
  have h2 := idxL_get hq
  rw [h, h2] at h1
  simpa using h1.symm

theorem Img.step {n : Nat} {L : List Int} {st st' : MS2} (h : Img n L.length L st st') (hn : L.Nodup) {p : Int} (hp : p < n) (hin : 0 ≤ p → p ∈ L) : Img n L.length L (meet1 st p) (meet1 st' (renP L p)) := by
  have hpl : renP L p < L.length := by
    unfold renP
    split
    · rename_i h0
      have := idxL_lt (hin h0)
      omega
    · omega
  have e1 := meet1_list h.a hp
  have e2 := meet1_list h.b hpl
  have heq : (0 ≤ p ∧ p ∉ st.2) ↔ (0 ≤ renP L p ∧ renP L p ∉ st'.2) := by
    rw [h.map]
    by_cases h0 : 0 ≤ p
    · have hr : renP L p = (idxL L p : Int) := by unfold renP; rw [if_pos h0]
      rw [hr]
      constructor
      · rintro ⟨_, h2⟩
        refine ⟨by omega, fun hm => ?_⟩
        obtain ⟨q, hq, he⟩ := List.mem_map.1 hm
        have := idx_inj hn (h.sub q hq) (hin h0) (by omega)
        exact h2 (this ▸ hq)
      · rintro ⟨_, h2⟩
        exact ⟨h0, fun hm => h2 (List.mem_map.2 ⟨p, hm, rfl⟩)⟩
    · have : ¬ 0 ≤ renP L p := by
        have := (renP_neg (l := L) (p := p)).2 (by omega)
        omega
      exact ⟨fun h => absurd h.1 h0, fun h => absurd h.1 this⟩
  refine ⟨(h.a.step p).1, (h.b.step _).1, fun x hx => ?_, ?_⟩
  · rw [e1] at hx
    split at hx
    · rename_i hc
      rcases List.mem_append.1 hx with hx | hx
      · exact h.sub x hx
      · rw [List.mem_singleton] at hx; subst hx; exact hin hc.1
    · exact h.sub x hx
  · rw [e1, e2]
    by_cases hc : 0 ≤ p ∧ p ∉ st.2
    · rw [if_pos hc, if_pos (heq.1 hc), h.map, List.map_append]
      have : renP L p = (idxL L p : Int) := by unfold renP; rw [if_pos hc.1]
      rw [this]
      rfl
    · rw [if_neg hc, if_neg (fun h => hc (heq.2 h)), h.map]

theorem Img.steps {n : Nat} {L : List Int} (hn : L.Nodup) : ∀ (ps : List Int) {st st' : MS2}, Img n L.length L st st' → (∀ p ∈ ps, p < n) → (∀ p ∈ ps, 0 ≤ p → p ∈ L) → Img n L.length L (meetM st ps) (meetM st' (ps.map (renP L)))
  | [], _, _, h, _, _ => h
  | p :: ps, st, st', h, h1, h2 => by
    have := h.step hn (h1 p (List.mem_cons_self ..)) (h2 p (List.mem_cons_self ..))
    exact Img.steps hn ps this (fun q hq => h1 q (List.mem_cons_of_mem _ hq)) (fun q hq => h2 q (List.mem_cons_of_mem _ hq))

theorem nodeAt_num {G : GG} {L : List Int} {x : Int} (hx : x ∈ L) : nodeAt (numM G L) (idxL L x : Int) = renN L (nodeAt G x) := by
  have := idxL_get hx
  unfold nodeAt numM
  simp only [Int.toNat_natCast, List.getElem?_map, this, Option.map_some, Option.getD_some]
  rfl

theorem Img.bfs {G : GG} {L : List Int} (hL : NumOk G L) (hw : WfG G) : ∀ (f a : Nat) {st st' : MS2}, Img G.n.length L.length L st st' → Img G.n.length L.length L (bfsM G f a st) (bfsM (numM G L) f a st')
  | 0, a, st, st', h => h
  | f + 1, a, st, st', h => by
    have hlen : st'.2.length = st.2.length := by rw [h.map, List.length_map]
    rw [bfsM, bfsM]
    by_cases ha : a < st.2.length
    · rw [dif_pos ha, dif_pos (by omega)]
      refine Img.bfs hL hw f (a + 1) ?_
      have hx : st.2[a] ∈ L := h.sub _ (List.getElem_mem ha)
      have e : st'.2[a]'(by omega) = (idxL L st.2[a] : Int) := by
        have : st'.2[a]? = some (idxL L st.2[a] : Int) := by rw [h.map, List.getElem?_map, List.getElem?_eq_getElem ha]; rfl
        rw [List.getElem?_eq_getElem (by omega)] at this
        simpa using this
      rw [e, nodeAt_num hx]
      have hr := hL.rng _ hx
      exact Img.steps hL.nod _ h (fun p hp => hw.p _ (nodeAt_mem (by omega)) p hp) (fun p hp h0 => hL.cl _ hx p hp h0)
    · rw [dif_neg ha, dif_neg (by omega)]
      exact h

theorem canonL_num {G : GG} (hw : WfG G) (hall : (canonL G).length = G.n.length) : canonL (numM G (canonL G)) = (canonL G).map fun p => (idxL (canonL G) p : Int) := by
  have hL := numOk_canon hw
  have hnl : (numM G (canonL G)).n.length = G.n.length := by simp only [numM, List.length_map]; exact hall
  have h0 : Img G.n.length (canonL G).length (canonL G) (List.replicate G.n.length false, []) (List.replicate (canonL G).length false, []) := ⟨met0 _, met0 _, (by intro x hx; cases hx), rfl⟩
  have h1 := Img.steps hL.nod (G.r.map (·.2)) h0 (fun p hp => by obtain ⟨r, hr, rfl⟩ := List.mem_map.1 hp; exact (hw.r r hr).2) (fun p hp _ => by obtain ⟨r, hr, rfl⟩ := List.mem_map.1 hp; exact hL.rt r hr)
  have h2 := h1.bfs hL hw G.n.length 0
  have e : meetM (List.replicate (canonL G).length false, []) ((G.r.map (·.2)).map (renP (canonL G))) = rootsM (numM G (canonL G)) := by
    unfold rootsM
    rw [hnl, hall]
    congr 1
    simp only [numM, List.map_map]
    apply List.map_congr_left
    intro r hr
    show renP (canonL G) r.2 = (idxL (canonL G) r.2 : Int)
    unfold renP
    rw [if_pos (hw.r r hr).1]
  rw [e] at h2
  have := h2.map
  rw [← hnl] at this
  conv at this => rhs; rw [hnl]
  exact this
end Go.Proofs

/-! The canonical graph's canonical graph. -/
set_option maxRecDepth 20000
namespace Go.Proofs
open Go.Eng

theorem rch_in {G : GG} {l : List Int} (hl : NumOk G l) {i : Nat} (h : Rch G i) : (i : Int) ∈ l := by
  induction h with
  | root hm =>
    have := hl.rng _ (hl.rt _ hm)
    rw [show (((_ : RM).2.toNat : Nat) : Int) = _ from Int.toNat_of_nonneg this.1]
    exact hl.rt _ hm
  | plain hi hn h1 hp h0 ih =>
    rw [Int.toNat_of_nonneg h0]
    refine hl.cl _ ih _ ?_ h0
    unfold nodeAt
    rw [Int.toNat_natCast, hn]
    exact hp
  | pair hi hn h3 hq hq0 hqr hp h0 ih ihq =>
    rw [Int.toNat_of_nonneg h0]
    refine hl.cl _ ih _ ?_ h0
    unfold nodeAt
    rw [Int.toNat_natCast, hn]
    exact hp

theorem all_len {L : List Int} {n : Nat} (h : ∀ i, i < n → (i : Int) ∈ L) : n ≤ L.length := by
  have hnd : ((List.range n).map fun i : Nat => (idxL L (i : Int) : Int)).Nodup := by
    unfold List.Nodup
    rw [List.pairwise_map, List.pairwise_iff_getElem]
    intro i j hi hj hij he
    rw [List.length_range] at hi hj
    rw [List.getElem_range, List.getElem_range] at he
    have h1 := idxL_get (h i hi)
    have h2 := idxL_get (h j hj)
    have he : idxL L (i : Int) = idxL L (j : Int) := by omega
    rw [he, h2] at h1
    simp only [Option.some.injEq] at h1
    omega
  have := nodup_le (n := L.length) hnd fun p hp => by
    obtain ⟨i, hi, rfl⟩ := List.mem_map.1 hp
    rw [List.mem_range] at hi
    have := idxL_lt (h i hi)
    omega
  simpa using this

theorem can_can {G : GG} (hok : okG G = true) : canM (canM G) = canM G := by
  have hokC := ok_cleared hok
  have hallC := cleared_all hok
  have hkillC : Kill (clearedM G) := kill_num (numOk_kept hok) (kill_kept hok)
  have hokD := ok_can hok
  unfold canM at hokD ⊢
  generalize clearedM G = C at *
  have hwC := okG_wf hokC
  have hL := numOk_canon hwC
  have hlen : (canonL C).length = C.n.length := Nat.le_antisymm hL.le (all_len fun i hi => rch_in hL (hallC i hi))
  have hnD : (canonM C).n.length = C.n.length := by unfold canonM numM; rw [List.length_map]; exact hlen
  have hreach := fun {i} => rch_num (A := C) (K := C) (i := i) hL rfl rfl (fun i hi => rch_in hL hi) fun i n hn _ => by
    unfold nodeAt
    rw [Int.toNat_natCast, hn]
    rfl
  have hallD : ∀ j, j < (canonM C).n.length → Rch (canonM C) j := by
    intro j hj
    have hjl : j < (canonL C).length := by omega
    have hr := hL.rng _ (List.getElem_mem hjl)
    have h2 := hreach (hallC (canonL C)[j].toNat (by omega))
    rw [Int.toNat_of_nonneg hr.1, idxL_at hL.nod (List.getElem?_eq_getElem hjl)] at h2
    exact h2
  have hD := cleared_id hokD hallD (kill_num hL hkillC)
  rw [hD]
  have hlist : canonL (canonM C) = (List.range (canonM C).n.length).map Int.ofNat := by
    unfold canonM
    rw [canonL_num hwC hlen]
    refine List.ext_getElem (by simp [numM]) fun i h1 h2 => ?_
    rw [List.getElem_map, List.getElem_map, List.getElem_range]
    have hi : i < (canonL C).length := by simpa using h1
    rw [idxL_at hL.nod (List.getElem?_eq_getElem hi)]
    rfl
  conv => lhs; unfold canonM
  show numM (canonM C) (canonL (canonM C)) = canonM C
  rw [hlist]
  exact numM_id (okG_wf hokD) fun n hn p hp => ((okG_node hokD hn).2 p hp).1

/-- what is packed is unpacked as what it comes to -/
theorem unpack_can {G : GG} (hok : okG G = true) : unpackM (packB (canM G)) = .ok (canM G) := unpack_pack (can_tiny hok) (ok_can hok) (can_can hok)
end Go.Proofs

/-! ArchiveBack. -/
set_option maxRecDepth 20000
namespace Go.Proofs
open Go.Eng

theorem Y8b (g : GS) (w : World) (h : RG0 w g) : Calls Tryz.prog 8 #[g.v] w (RetT [.c .bool] fun r w' => (r = true → g.small ∧ g.xs.length ≤ 100 ∧ g.rs.length ≤ 100) ∧ Grow w w') := by
  refine (Y8 g.gn g.gr g.xs g.rs w h.ns h.rs h.c1 h.c2 fun x hx => ⟨(h.ip x hx).len, (h.bd x hx).len⟩).mono ?_
  rintro e w' ⟨p, he, h1, h2⟩
  refine ⟨p, he, fun hb => ?_, h2⟩
  obtain ⟨a, b, c, d⟩ := h1 hb
  exact ⟨⟨by omega, by omega, fun x hx => (c x hx).1, fun x hx => (c x hx).2, d⟩, a, b⟩

theorem pack_short {G : GG} (ht : G.tiny) (hn : G.n.length ≤ 100) (hr : G.r.length ≤ 100) : (packB G).length ≤ 1000000 := by
  rw [pack_len]
  have hdl := dataL_len G
  have h1 := flatMap_le (f := datB) (K := 1018) (l := dataL G) fun x hx => by
    obtain ⟨n, hn, rfl⟩ := dataL_of G x hx
    exact datB_len (ht.dl n hn)
  have h2 := flatMap_le (f := nodB (dataL G)) (K := 1290) (l := G.n) fun x hx => nodB_len (ht.pl x hx)
  have h3 := flatMap_le (f := rootB) (K := 36) (l := G.r) fun x hx => rootB_len (ht.sl x hx)
  have u1 := uvB_len (dataL G).length
  have u2 := uvB_len G.n.length
  have u3 := uvB_len G.r.length
  have h8 : magicL.length = 8 := rfl
  unfold bodyB
  simp only [List.length_append]
  omega
theorem can_len {G : GG} (hok : okG G = true) : (canM G).n.length ≤ G.n.length ∧ (canM G).r.length = G.r.length := by
  have h1 := (numOk_kept hok).le
  have h2 := (numOk_canon (cleared_wf hok)).le
  have e1 : (clearedM G).n.length = (keptL (reachM G)).length := by simp [clearedM, numM]
  have e2 : (canM G).n.length = (canonL (clearedM G)).length := by simp [canM, canonM, numM]
  have e3 : (keptG G).n.length = G.n.length := by simp [keptG]
  exact ⟨by omega, by simp [canM, canonM, clearedM, numM, keptG]⟩

theorem law5 (g : GS) (s : Sl) (l : List UInt8) (w : World) (hg : w.cell? ⟨0, 0, none⟩ = some (tyV 31)) (h0 : RG0 w g) (hs : BS w s l) (hc : s.len ≤ s.cap) : Calls Tryz.prog 5 #[g.v, slV s] w (RetT [.c .bool] fun r w' => r = true ∧ Grow w w') := by
  refine F5_calls g.gn g.gr s _ _ ?_
  unfold F5
  simp only [deref_some']
  have hsl := hs.len
  refine St.nw (St.init0 w) fun r w1 s1 _ _ => ?_
  have s1 : St noF w w1 [BoxA r [slV g.gn, slV g.gr]] := s1
  refine jn_of (fun s' W => (s' = false → (g.small ∧ g.xs.length ≤ 100 ∧ g.rs.length ≤ 100) ∧ l.length ≤ 20000) ∧ St noF w W [BoxA r [slV g.gn, slV g.gr]]) ?_ ?_
  · refine callF_of (Y7 w1 (cell_gro s1.gro hg)) ?_
    rintro _ w3 ⟨rfl, g3⟩
    have s3 := s1.grow g3
    refine br_of (fun h => by cases h) fun _ => ?_
    refine Box.ldA (l := [.slice, .slice]) (p := (g.gn, g.gr)) s3.box ?_
    refine callF_of (Y8b g w3 (h0.grow s3.gro)) ?_
    rintro b w4 ⟨hb, g4⟩
    have s4 := s3.grow g4
    refine br_of (fun _ => ⟨(by intro h; cases h), s4⟩) fun hbf => ⟨fun h => ⟨hb (by simpa using hbf), ?_⟩, s4⟩
    simp only [decide_eq_false_iff_not] at h
    omega
  rintro b W ⟨hb, sW⟩
  refine br_of (fun _ => ?_) fun hf => ?_
  · refine callF_of (Y7 W (cell_gro sW.gro hg)) ?_
    rintro _ w2 ⟨rfl, g2⟩
    exact ⟨rfl, (sW.grow g2).gro⟩
  obtain ⟨⟨hs1, hn1, hr1⟩, hll⟩ := hb hf
  have hrg : ∀ {W' L}, St noF w W' L → RG W' noF g := fun s => (h0.grow s.gro).rg hs1
  have hml : g.m.n.length = g.xs.length := by simp [GS.m]
  refine jn_of (fun _ W' => ∃ T, St noF w W' T) ?_ ?_
  · refine Box.ldA (l := [.slice, .slice]) (p := (g.gn, g.gr)) sW.box ?_
    refine callF_of (Y10 g W (hrg sW)) fun rv w3 hP => ?_
    obtain ⟨x, v⟩ := rv
    rcases hP with ⟨hok, hv, k3⟩ | ⟨hbad, _, b, hv, k3⟩
    · dsimp only at hv
      subst hv
      have s3 := sW.call0 k3
      have s3 : St noF w w3 [SlA 1 x ((packB (canM g.m)).map ub), BoxA r [slV g.gn, slV g.gr]] := s3
      have hcl := can_len hok
      have hrm : g.m.r.length = g.rs.length := rfl
      have hlen := pack_short (can_tiny hok) (by omega) (by omega)
      have hun := unpack_can hok
      generalize packB (canM g.m) = B at *
      refine ⟨trivial, br_of (fun _ => ?_) fun h => by cases h⟩
      refine callF_of (Y16 x B w3 s3.sl.bs s3.sl.le hlen) ?_
      rintro ⟨⟨y1, y2⟩, e1⟩ w4 (⟨y, hy, hye, hv, hys, k4⟩ | ⟨e, n, b, hy, _⟩)
      rotate_left
      · rw [hun] at hy; cases hy
      rw [hun] at hy
      simp only [Except.ok.injEq] at hy
      simp only [Prod.mk.injEq] at hye
      obtain ⟨rfl, rfl⟩ := hye
      dsimp only at hv
      subst hv
      have s4 := s3.call0 k4
      refine St.nw s4 fun ra w5 s5 _ _ => s5.st (i := 0) (by simp) trivial fun w6 s6 => s6.st (i := 1) (by simp) trivial fun w7 s7 => ?_
      have s7 : St noF w w7 [BoxA ra [slV y.gn, slV y.gr], GAx y, SlA 1 x (B.map ub), BoxA r [slV g.gn, slV g.gr]] := s7
      refine Box.ldA (l := [.slice, .slice]) (p := (g.gn, g.gr)) (s7.bring 3).box ?_
      refine callF_of (Y18 g w7 (hrg s7)) ?_
      rintro ⟨⟨c1, c2⟩, ce⟩ w8 (⟨_, hce, c, hc1, hc2, hcm, k8⟩ | ⟨hb2, _⟩)
      rotate_left
      · rw [hok] at hb2; cases hb2
      dsimp only at hce hc1 hc2
      subst hce hc1 hc2
      have s8 := s7.call0 k8
      refine St.nw s8 fun rb w9 s9 _ _ => s9.st (i := 0) (by simp) trivial fun w10 s10 => s10.st (i := 1) (by simp) trivial fun w11 s11 => ?_
      have s11 : St noF w w11 [BoxA rb [slV c.gn, slV c.gr], GAx c, BoxA ra [slV y.gn, slV y.gr], GAx y, SlA 1 x (B.map ub), BoxA r [slV g.gn, slV g.gr]] := s11
      refine jn_of (fun s' W' => s' = false ∧ ∃ T, St noF w W' T) ?_ ?_
      · refine ⟨trivial, br_of (fun h => by cases h) fun _ => br_of (fun h => by simp at h) fun _ => ?_⟩
        refine Box.ldA (l := [.slice, .slice]) (p := (y.gn, y.gr)) (s11.bring 2).box ?_
        refine Box.ldA (l := [.slice, .slice]) (p := (c.gn, c.gr)) s11.box ?_
        refine callF_of (Y14 y c w11 (St.rg (s11.bring 3) hys) (St.rg (s11.bring 1) (GS.small_iff.2 (by rw [hcm]; exact can_small hok)))) ?_
        rintro _ w12 ⟨rfl, g12⟩
        exact ⟨by rw [hcm, ← hy]; simp, _, s11.grow g12⟩
      · rintro _ W' ⟨rfl, T, s'⟩
        exact br_of (fun h => by cases h) fun _ => ⟨T, s'⟩
    · dsimp only at hv
      subst hv
      exact ⟨trivial, br_of (fun h => by cases h) fun _ => ⟨_, sW.call0 k3⟩⟩
  rintro ⟨⟩ W2 ⟨T, sT⟩
  refine callF_of (Y16 s l W2 (hs.grow sT.gro) hc (by omega)) ?_
  rintro ⟨⟨y1, y2⟩, e1⟩ w4 (⟨y, hy, hye, hv, hys, k4⟩ | ⟨e, n, b, hy, hye, hv, k4⟩)
  · simp only [Prod.mk.injEq] at hye
    obtain ⟨rfl, rfl⟩ := hye
    dsimp only at hv
    subst hv
    have s4 := sT.call0 k4
    refine St.nw s4 fun ra w5 s5 _ _ => s5.st (i := 0) (by simp) trivial fun w6 s6 => s6.st (i := 1) (by simp) trivial fun w7 s7 => ?_
    have s7 : St noF w w7 (BoxA ra [slV y.gn, slV y.gr] :: GAx y :: T) := s7
    refine ⟨trivial, br_of (fun h => by cases h) fun _ => ?_⟩
    refine Box.ldA (l := [.slice, .slice]) (p := (y.gn, y.gr)) s7.box ?_
    obtain ⟨hok, hcy, hpk⟩ := pack_unpack hy
    refine callF_of (Y10 y w7 (St.rg (s7.bring 1) hys)) ?_
    rintro ⟨q, v⟩ w8 (⟨_, hv, k8⟩ | ⟨hb2, _⟩)
    rotate_left
    · rw [hok] at hb2; cases hb2
    dsimp only at hv
    subst hv
    rw [hcy, hpk] at k8
    have s8 := s7.call0 k8
    refine ⟨trivial, br_of (fun _ => ?_) fun h => by cases h⟩
    refine callF_of (Y12 q s l l w8 s8.sl.bs (hs.grow s8.gro)) ?_
    rintro _ _ ⟨rfl, rfl⟩
    exact ⟨by simp, s8.gro⟩
  · simp only [Prod.mk.injEq] at hye
    obtain ⟨rfl, rfl⟩ := hye
    dsimp only at hv
    subst hv
    have s4 := sT.call0 k4
    refine St.nw s4 fun ra w5 s5 _ _ => s5.st (i := 0) (by simp) trivial fun w6 s6 => s6.st (i := 1) (by simp) trivial fun w7 s7 => ?_
    refine ⟨trivial, br_of (fun _ => ?_) fun h => by cases h⟩
    refine s7.ld (i := 0) (s := .slice) (p := ⟨none, 0, 0⟩) rfl (s7.ld (i := 1) (s := .slice) (p := ⟨none, 0, 0⟩) rfl ⟨by decide, s7.gro⟩)
end Go.Proofs

/-! Bytes and graphs that came in. -/
set_option maxRecDepth 100000
namespace Go.Proofs
open Go.Eng Go.ChangeShapes Go.WideShapes Go.ChangeAt Go.RowKit Go.Deep

theorem row_num {n : Int} (h : (Lit.int .u8 n).wf = true) : (Value.int .u8 n) = ub (UInt8.ofNat n.toNat) := by
  have h2 : 0 ≤ n ∧ n ≤ 255 := by
    simp only [Lit.wf, IntKind.min, IntKind.max, IntKind.signed, IntKind.bits, Bool.and_eq_true, decide_eq_true_eq] at h
    simpa using h
  have h3 : ((UInt8.ofNat n.toNat).toNat : Int) = n := by simp; omega
  rw [ub, h3]

theorem choose_below {α : Type} [Inhabited α] {n : Nat} {p : Nat → α → Prop} (h : ∀ i, i < n → ∃ x, p i x) : ∃ f : Nat → α, ∀ i, i < n → p i (f i) := by
  classical
  refine ⟨fun i => if hi : i < n then (h i hi).choose else default, fun i hi => ?_⟩
  dsimp only
  rw [dif_pos hi]
  exact (h i hi).choose_spec

section
variable {H : Type} {enc : TypeId × Value → H} {W : World} {sp : Nat → Bool}

theorem open_bytesZ {fuel : Nat} {v : Value} {x : DataW H × List MemPlace} (h : DataW.trod enc Tryz.prog W 0 sp true fuel 29 [v] = some x) :
    ∃ (s : Sl) (l : List UInt8), v = slV s ∧ BS W s l ∧ s.len ≤ s.cap := by
  rcases open_ints Tryz.underlying29 Tryz.underlying5 (by kernel_rfl) h with ⟨hcs, _⟩ | ⟨x, l, c, zs, hcs, _, hl, hm, hz, hr, hcell, hwz⟩
  · simp only [List.cons.injEq, and_true] at hcs
    exact ⟨⟨none, 0, 0⟩, [], hcs, BS.nil _ _, Nat.le_refl _⟩
  · simp only [List.cons.injEq, and_true] at hcs
    have hz' : l ≤ zs.length := by rw [hz]; split <;> omega
    refine ⟨⟨some x, l, c⟩, (zs.take l).map fun n => UInt8.ofNat n.toNat, hcs, ⟨by simp; omega, readsAt_row.2 fun j v hj => ?_⟩, hl⟩
    simp only [List.map_map, List.getElem?_map, List.getElem?_take] at hj
    split at hj
    · rename_i hlt
      have hjl : j < zs.length := by omega
      rw [hcell j hjl]
      simp only [hjl, List.getElem?_eq_getElem, Option.map_some, Option.some.injEq, Function.comp_apply] at hj
      subst hj
      rw [show zs.getD j 0 = zs[j] by simp [List.getD, hjl]]
      exact congrArg some (row_num (hwz _ (List.getElem_mem hjl)))
    · cases hj

theorem open_intsZ {fuel : Nat} {v : Value} {x : DataW H × List MemPlace} (h : DataW.trod enc Tryz.prog W 0 sp true fuel 47 [v] = some x) :
    ∃ (s : Sl) (l : List Int), v = slV s ∧ IS W s l ∧ s.len ≤ s.cap := by
  rcases open_ints Tryz.underlying47 Tryz.underlying3 (by kernel_rfl) h with ⟨hcs, _⟩ | ⟨x, l, c, zs, hcs, _, hl, hm, hz, hr, hcell, hwz⟩
  · simp only [List.cons.injEq, and_true] at hcs
    exact ⟨⟨none, 0, 0⟩, [], hcs, MS.nil _ _ _, Nat.le_refl _⟩
  · simp only [List.cons.injEq, and_true] at hcs
    have hz' : l ≤ zs.length := by rw [hz]; split <;> omega
    refine ⟨⟨some x, l, c⟩, zs.take l, hcs, ⟨by simp; omega, readsAt_row.2 fun j v hj => ?_⟩, hl⟩
    simp only [List.getElem?_map, List.getElem?_take] at hj
    split at hj
    · rename_i hlt
      have hjl : j < zs.length := by omega
      rw [hcell j hjl]
      simp only [hjl, List.getElem?_eq_getElem, Option.map_some, Option.some.injEq] at hj
      subst hj
      rw [show zs.getD j 0 = zs[j] by simp [List.getD, hjl]]
    · cases hj

theorem open_nodeZ {fuel : Nat} {cs : List Value} {x : DataW H × List MemPlace} (h : DataW.trod enc Tryz.prog W 0 sp true fuel 49 cs = some x) :
    ∃ y : NS, cs = ncells y ∧ IS W y.ps y.p ∧ BS W y.ds y.d := by
  obtain ⟨xs, n, _, rfl, hl, hxl, hf⟩ := DataW.trod_struct Tryz.underlying49 h
  have h5 : Tryz.prog.cellsOf 49 = 3 := by kernel_rfl
  have h3 : Tryz.prog.cellsOf 3 = 1 := by kernel_rfl
  have h47 : Tryz.prog.cellsOf 47 = 1 := by kernel_rfl
  have h29 : Tryz.prog.cellsOf 29 = 1 := by kernel_rfl
  rw [h5] at hl
  have hxl' : xs.length = 3 := hxl
  match cs, hl with
  | [v0, v1, v2], _ =>
    have u0 : DataW.trod enc Tryz.prog W 0 sp true n 3 (([v0, v1, v2].drop 0).take (Tryz.prog.cellsOf 3)) = xs[0]? := hf 0 _ rfl
    have u1 : DataW.trod enc Tryz.prog W 0 sp true n 47 (([v0, v1, v2].drop 1).take (Tryz.prog.cellsOf 47)) = xs[1]? := hf 1 _ rfl
    have u2 : DataW.trod enc Tryz.prog W 0 sp true n 29 (([v0, v1, v2].drop 2).take (Tryz.prog.cellsOf 29)) = xs[2]? := hf 2 _ rfl
    rw [List.getElem?_eq_getElem (by omega), h3] at u0
    rw [List.getElem?_eq_getElem (by omega), h47] at u1
    rw [List.getElem?_eq_getElem (by omega), h29] at u2
    simp only [List.drop, List.take] at u0 u1 u2
    obtain ⟨q0, e0, _, _⟩ := DataW.trod_int Tryz.underlying3 u0
    obtain ⟨s1, l1, e1, hs1, _⟩ := open_intsZ u1
    obtain ⟨s2, l2, e2, hs2, _⟩ := open_bytesZ u2
    simp only [List.cons.injEq, and_true] at e0
    subst e0 e1 e2
    exact ⟨⟨q0, s1, l1, s2, l2⟩, rfl, hs1, hs2⟩

theorem open_rootZ {fuel : Nat} {cs : List Value} {x : DataW H × List MemPlace} (h : DataW.trod enc Tryz.prog W 0 sp true fuel 57 cs = some x) :
    ∃ y : RM, cs = rcellsM y := by
  obtain ⟨xs, n, _, rfl, hl, hxl, hf⟩ := DataW.trod_struct Tryz.underlying57 h
  have h5 : Tryz.prog.cellsOf 57 = 2 := by kernel_rfl
  have h3 : Tryz.prog.cellsOf 3 = 1 := by kernel_rfl
  have h9 : Tryz.prog.cellsOf 9 = 1 := by kernel_rfl
  rw [h5] at hl
  have hxl' : xs.length = 2 := hxl
  match cs, hl with
  | [v0, v1], _ =>
    have u0 : DataW.trod enc Tryz.prog W 0 sp true n 9 (([v0, v1].drop 0).take (Tryz.prog.cellsOf 9)) = xs[0]? := hf 0 _ rfl
    have u1 : DataW.trod enc Tryz.prog W 0 sp true n 3 (([v0, v1].drop 1).take (Tryz.prog.cellsOf 3)) = xs[1]? := hf 1 _ rfl
    rw [List.getElem?_eq_getElem (by omega), h9] at u0
    rw [List.getElem?_eq_getElem (by omega), h3] at u1
    simp only [List.drop, List.take] at u0 u1
    obtain ⟨b, e0, _, _⟩ := DataW.trod_string Tryz.underlying9 u0
    obtain ⟨q1, e1, _, _⟩ := DataW.trod_int Tryz.underlying3 u1
    simp only [List.cons.injEq, and_true] at e0 e1
    subst e0 e1
    refine ⟨(b.data.toList, q1), ?_⟩
    show _ = [Value.string (bytesOf b.data.toList), Value.int .i64 q1]
    unfold bytesOf
    simp

theorem open_nodesZ {fuel : Nat} {v : Value} {x : DataW H × List MemPlace} (h : DataW.trod enc Tryz.prog W 0 sp true fuel 22 [v] = some x) :
    ∃ (s : Sl) (xs : List NS), v = slV s ∧ SS ncells W s xs ∧ s.len ≤ s.cap ∧ ∀ y ∈ xs, IS W y.ps y.p ∧ BS W y.ds y.d := by
  rcases open_slice Tryz.underlying22 h with ⟨hcs, _⟩ | ⟨a, len, cap, m, n, D, Pl, hcs, hb, hl, hm, hmm, _, hx⟩
  · simp only [List.cons.injEq, and_true] at hcs
    exact ⟨⟨none, 0, 0⟩, [], hcs, SS.nil _ _, Nat.le_refl _, by simp⟩
  · simp only [List.cons.injEq, and_true] at hcs
    have hlm : len ≤ m := by rw [hmm]; split <;> omega
    have h5 : Tryz.prog.cellsOf 49 = 3 := by kernel_rfl
    have : Inhabited NS := ⟨⟨0, ⟨none, 0, 0⟩, [], ⟨none, 0, 0⟩, []⟩⟩
    have each : ∀ i, i < len → ∃ r : NS, Row W (a.add (i * 3)) (ncells r) ∧ IS W r.ps r.p ∧ BS W r.ds r.d := by
      intro i hi
      obtain ⟨cs', h1, h2⟩ := hx i (by omega)
      rw [h5] at h1
      obtain ⟨_, hlen, hcell⟩ := World.cells?_some h1
      obtain ⟨r, rfl, hr⟩ := open_nodeZ h2
      refine ⟨r, fun j v hj => ?_, hr⟩
      have hj5 : j < 3 := by
        rcases Nat.lt_or_ge j 3 with h' | h'
        · exact h'
        · rw [List.getElem?_eq_none (by simpa using h')] at hj; cases hj
      rw [hcell j hj5, hj]
    obtain ⟨f, hf⟩ := choose_below each
    refine ⟨⟨some a, len, cap⟩, (List.range len).map f, hcs, ⟨by simp, ?_⟩, hl, fun x hx => ?_⟩
    · refine readsAt_row.2 ((flatMap_row ncells_len).2 fun i r hi => ?_)
      have hil : i < len := by
        rcases Nat.lt_or_ge i len with h' | h'
        · exact h'
        · rw [List.getElem?_eq_none (by simpa using h')] at hi; cases hi
      simp [hil] at hi
      subst hi
      exact (hf i hil).1
    · obtain ⟨i, hi, rfl⟩ := List.mem_map.1 hx
      exact (hf i (List.mem_range.1 hi)).2

theorem open_rootsZ {fuel : Nat} {v : Value} {x : DataW H × List MemPlace} (h : DataW.trod enc Tryz.prog W 0 sp true fuel 23 [v] = some x) :
    ∃ (s : Sl) (xs : List RM), v = slV s ∧ SS rcellsM W s xs ∧ s.len ≤ s.cap := by
  rcases open_slice Tryz.underlying23 h with ⟨hcs, _⟩ | ⟨a, len, cap, m, n, D, Pl, hcs, hb, hl, hm, hmm, _, hx⟩
  · simp only [List.cons.injEq, and_true] at hcs
    exact ⟨⟨none, 0, 0⟩, [], hcs, SS.nil _ _, Nat.le_refl _⟩
  · simp only [List.cons.injEq, and_true] at hcs
    have hlm : len ≤ m := by rw [hmm]; split <;> omega
    have h5 : Tryz.prog.cellsOf 57 = 2 := by kernel_rfl
    have : Inhabited RM := ⟨([], 0)⟩
    have each : ∀ i, i < len → ∃ r : RM, Row W (a.add (i * 2)) (rcellsM r) := by
      intro i hi
      obtain ⟨cs', h1, h2⟩ := hx i (by omega)
      rw [h5] at h1
      obtain ⟨_, hlen, hcell⟩ := World.cells?_some h1
      obtain ⟨r, rfl⟩ := open_rootZ h2
      refine ⟨r, fun j v hj => ?_⟩
      have hj5 : j < 2 := by
        rcases Nat.lt_or_ge j 2 with h' | h'
        · exact h'
        · rw [List.getElem?_eq_none (by simpa using h')] at hj; cases hj
      rw [hcell j hj5, hj]
    obtain ⟨f, hf⟩ := choose_below each
    refine ⟨⟨some a, len, cap⟩, (List.range len).map f, hcs, ⟨by simp, ?_⟩, hl⟩
    refine readsAt_row.2 ((flatMap_row rcellsM_len).2 fun i r hi => ?_)
    have hil : i < len := by
      rcases Nat.lt_or_ge i len with h' | h'
      · exact h'
      · rw [List.getElem?_eq_none (by simpa using h')] at hi; cases hi
    simp [hil] at hi
    subst hi
    exact hf i hil

/-- a graph that came in -/
theorem open_graphZ {fuel : Nat} {cs : List Value} {x : DataW H × List MemPlace} (h : DataW.trod enc Tryz.prog W 0 sp true fuel 25 cs = some x) :
    ∃ g : GS, cs = [slV g.gn, slV g.gr] ∧ RG0 W g := by
  obtain ⟨xs, n, _, rfl, hl, hxl, hf⟩ := DataW.trod_struct Tryz.underlying25 h
  have h5 : Tryz.prog.cellsOf 25 = 2 := by kernel_rfl
  have h22 : Tryz.prog.cellsOf 22 = 1 := by kernel_rfl
  have h23 : Tryz.prog.cellsOf 23 = 1 := by kernel_rfl
  rw [h5] at hl
  have hxl' : xs.length = 2 := hxl
  match cs, hl with
  | [v0, v1], _ =>
    have u0 : DataW.trod enc Tryz.prog W 0 sp true n 22 (([v0, v1].drop 0).take (Tryz.prog.cellsOf 22)) = xs[0]? := hf 0 _ rfl
    have u1 : DataW.trod enc Tryz.prog W 0 sp true n 23 (([v0, v1].drop 1).take (Tryz.prog.cellsOf 23)) = xs[1]? := hf 1 _ rfl
    rw [List.getElem?_eq_getElem (by omega), h22] at u0
    rw [List.getElem?_eq_getElem (by omega), h23] at u1
    simp only [List.drop, List.take] at u0 u1
    obtain ⟨s1, l1, rfl, hn, hc1, hall⟩ := open_nodesZ u0
    obtain ⟨s2, l2, rfl, hr, hc2⟩ := open_rootsZ u1
    exact ⟨⟨s1, s2, l1, l2⟩, rfl, hn, hr, fun y hy => (hall y hy).1, fun y hy => (hall y hy).2, hc1, hc2⟩
end
end Go.Proofs

/-! The laid variable. -/
set_option maxRecDepth 100000
namespace Go.Proofs
open Go.Eng Go.ChangeShapes Go.WideShapes Go.RowKit

theorem zown : ownKnob Tryz.prog.godebug = none := by kernel_rfl
theorem zet : Tryz.prog.globalNamed "errors.errorType" = some 0 := by kernel_rfl
theorem zrt : (Tryz.prog.cutTypes.find? (·.1 == "internal/reflectlite.rtype")).map (·.2) = some 156 := by kernel_rfl
theorem zoneRow : ((List.range 205).filter fun t => Tryz.prog.rowNamed t [101, 114, 114, 111, 114]) = [31] := by kernel_rfl
theorem zsize : Tryz.prog.types.size = 205 := by kernel_rfl
theorem handle_of_laid {W : World} (h : laidMetH Tryz.prog [("errors.errorType", YthmdhggifeallaaGreatDoor.Rows.laid_errors_errorType)] W) : W.cell? ⟨0, 0, none⟩ = some (tyV 31) := by
  have h' : laidMet Tryz.prog [] W ∧ handlesMet Tryz.prog _ W := h
  obtain ⟨name, u, ty, e1, e2, e3, e4, e5⟩ := h'.2 _ (List.mem_singleton.2 rfl)
  have en : name = [101, 114, 114, 111, 114] := (Option.some.inj e1).symm
  subst en
  obtain rfl := Option.some.inj (zrt.symm.trans e2)
  have hm : ty ∈ (List.range 205).filter fun t => Tryz.prog.rowNamed t [101, 114, 114, 111, 114] := List.mem_filter.2 ⟨List.mem_range.2 (by rw [← zsize]; exact e3), e4⟩
  rw [zoneRow] at hm
  obtain rfl := List.mem_singleton.1 hm
  have hh : typeHandle Tryz.prog 31 = .pointer (some ⟨1, 31, none⟩) := by kernel_rfl
  rw [hh] at e5
  simpa using World.var?_cell zet e5 0
end Go.Proofs
namespace Go.Proofs
open Go.Eng Go.ChangeShapes Go.WideShapes Go.RowKit
theorem zlaidOut : laidOutB Tryz.prog = true := by kernel_rfl
/-- a world that meets the condition -/
noncomputable def laidWorld (os : Os) : World :=
  let w0 := World.holding Tryz.prog os ⟨#[], #[], []⟩
  { w0 with heap := w0.heap.modify 0 fun
      | .cells _ t frozen => .cells #[tyV 31] t frozen
      | o => o }
theorem laidWorld_met (os : Os) (args : Array Value) : laidMetH Tryz.prog [("errors.errorType", YthmdhggifeallaaGreatDoor.Rows.laid_errors_errorType)] ((laidWorld os).forCall (fun _ _ => 0) ⟨#[], args, []⟩).memory :=
  laidMetH_of_parts ⟨[], rfl, List.nodup_nil, fun _ _ h => by cases h⟩ (by kernel_rfl)
end Go.Proofs
namespace Go.Eng
open Go.RowKit
theorem Grow.below {w w' : World} (h : Grow w w') : Below w.heap.size w w' := ⟨h.rest.1, h.rest.2.1, h.rest.2.2, h.size, fun k hk => h.same k hk fun h => h⟩
end Go.Eng
