import Derived.Test.YthmdhggifeallaaDoorX1
import Derived.Test.YthmdhggifeallaaDoorX2
import Derived.Test.YthmdhggifeallaaDoorX3
import Derived.Test.YthmdhggifeallaaDoorProg
import Derived.RecoverIn
import Derived.LaidEql
import Derived.Laws.Externs
import Derived.Stop.Asserts
import Derived.RowKitTokens
set_option linter.unusedVariables false
set_option linter.unusedSimpArgs false
set_option linter.unusedSectionVars false
/-! Data, each once. -/
set_option maxRecDepth 20000
namespace Go.Proofs
open Go.Eng

theorem bytesOf_beq (a b : List UInt8) : (bytesOf a == bytesOf b) = decide (a = b) := by
  show (a.toArray == b.toArray) = _
  rw [Bool.eq_iff_iff]
  simp
theorem bytesOf_inj {a b : List UInt8} : bytesOf a = bytesOf b ↔ a = b := by
  constructor
  · intro h
    have := congrArg ByteArray.toList h
    simpa using this
  · rintro rfl; rfl

def strKT : KT (List UInt8) where
  kd := .string
  enc l := .string (bytesOf l)
  same a b := by
    simp only [Instr.sameNow, Option.some.injEq]
    exact bytesOf_beq a b
  bits a := by simp [Instr.sameBits, bytesOf_beq]

def kvD (ds : List (List UInt8)) : List (List UInt8 × Value) := ds.zipIdx.map fun x => (x.1, iv x.2)
theorem kvD_keys (ds : List (List UInt8)) : (kvD ds).map (·.1) = ds := by
  unfold kvD
  rw [List.map_map]
  refine List.ext_getElem (by simp) fun i h1 h2 => by simp
theorem kvD_app (ds : List (List UInt8)) (d : List UInt8) : kvD (ds ++ [d]) = kvD ds ++ [(d, iv ds.length)] := by
  unfold kvD
  rw [List.zipIdx_append, List.map_append]
  simp
def dnum (ds : List (List UInt8)) (d : List UInt8) : Nat := ds.findIdx (· == d)
theorem lkp_zip (k : List UInt8) : ∀ (ds : List (List UInt8)) (n : Nat), lkp k ((ds.zipIdx n).map fun x => (x.1, iv x.2)) = if k ∈ ds then some (iv (n + dnum ds k : Nat)) else none
  | [], n => rfl
  | d :: ds, n => by
    rw [List.zipIdx_cons, List.map_cons]
    unfold lkp
    dsimp only
    by_cases h : k = d
    · subst h
      rw [if_pos rfl, if_pos (List.mem_cons_self ..)]
      simp [dnum, List.findIdx_cons]
    · rw [if_neg h, lkp_zip k ds (n + 1)]
      have e : (k ∈ d :: ds) ↔ k ∈ ds := by rw [List.mem_cons]; exact ⟨fun h' => h'.resolve_left h, .inr⟩
      by_cases hm : k ∈ ds
      · rw [if_pos hm, if_pos (e.2 hm)]
        congr 2
        unfold dnum
        rw [List.findIdx_cons, show (d == k) = false by simpa using fun h' => h h'.symm]
        simp only [cond_false]
        omega
      · rw [if_neg hm, if_neg fun h' => hm (e.1 h')]
theorem lkp_kvD (k : List UInt8) (ds : List (List UInt8)) : lkp k (kvD ds) = if k ∈ ds then some (iv (dnum ds k)) else none := by
  unfold kvD
  rw [lkp_zip, Nat.zero_add]

/-- one more, if its data is new -/
def ddS (ys : List NS) (y : NS) : List NS := if y.d ∈ ys.map (·.d) then ys else ys ++ [y]
def ddN (l : List NS) : List NS := l.foldl ddS []
def dmS (ds : List (List UInt8)) (d : List UInt8) : List (List UInt8) := if d ∈ ds then ds else ds ++ [d]
/-- the data of a graph, each once -/
def dataL (G : GG) : List (List UInt8) := (G.n.map (·.d)).foldl dmS []

theorem dd_map (l : List NS) : ∀ ys : List NS, (l.foldl ddS ys).map (·.d) = (l.map (·.d)).foldl dmS (ys.map (·.d)) := by
  induction l with
  | nil => intro ys; rfl
  | cons y l ih =>
    intro ys
    rw [List.foldl_cons, ih, List.map_cons, List.foldl_cons]
    congr 1
    unfold ddS dmS
    split
    · rfl
    · rw [List.map_append]; rfl
theorem ddN_map (g : GS) : (ddN g.xs).map (·.d) = dataL g.m := by
  unfold ddN dataL
  rw [dd_map]
  congr 1
  simp [GS.m, NS.m]
theorem ddN_sub (l : List NS) : ∀ ys : List NS, ∀ y ∈ l.foldl ddS ys, y ∈ ys ∨ y ∈ l := by
  induction l with
  | nil => intro ys y h; exact .inl h
  | cons x l ih =>
    intro ys y h
    rcases ih _ y h with h | h
    · unfold ddS at h
      split at h
      · exact .inl h
      · rcases List.mem_append.1 h with h | h
        · exact .inl h
        · exact .inr (List.mem_cons.2 (.inl (by simpa using h)))
    · exact .inr (List.mem_cons_of_mem _ h)
theorem dd_len (l : List NS) : ∀ ys : List NS, (l.foldl ddS ys).length ≤ ys.length + l.length := by
  induction l with
  | nil => intro ys; simp
  | cons x l ih =>
    intro ys
    have := ih (ddS ys x)
    have h2 : (ddS ys x).length ≤ ys.length + 1 := by
      unfold ddS
      split <;> simp
    rw [List.foldl_cons, List.length_cons]
    omega

/-- the data that was met, and the numbers of it -/
def DLA (b : Nat) (ys : List NS) : HA := exA fun x : Sl × Nat => [BoxA b [slV x.1, .map (some x.2)], SlA 1 x.1 (ys.map fun y => slV y.ds), MapA strKT x.2 (kvD (ys.map (·.d)))]

theorem Y26 (b : Nat) (ys : List NS) (y : NS) (w : World) (F : Nat → Prop) (h : Has [DLA b ys] w F) (hy : BS w y.ds y.d) (hno : y.d ≠ [] → ∀ b, y.ds.blk b → ¬ F b) (hl : ys.length ≤ 1000000) :
    Calls Tryd.prog 19 #[.pointer (some ⟨b, 0, none⟩), slV y.ds] w (RetT [.c (.int .i64)] fun r w' => r = dnum ((ddS ys y).map (·.d)) y.d ∧ St F w w' [DLA b (ddS ys y)]) := by
  refine F19_calls (some ⟨b, 0, none⟩) y.ds _ _ ?_
  unfold F19
  simp only [deref_some']
  rw [drw_def]
  have s0 := (St.init h).drew
  obtain ⟨⟨t, m⟩, s⟩ := s0.ex
  have s : St F w w.drew [BoxA b [slV t, .map (some m)], SlA 1 t (ys.map fun y => slV y.ds), MapA strKT m (kvD (ys.map (·.d)))] := s
  have hyat : ∀ {W L}, St F w W L → BS W y.ds y.d := fun s => hy.mod s.modd fun ad ha hl => hno hl _ ⟨ad, ha, rfl⟩
  refine s.ld (i := 1) (s := .map) (p := some m) rfl ?_
  refine b2s_of (hyat s) ?_
  refine St.mapAt (T := strKT) (k := y.d) (s.bring 2) ?_ ?_
  · intro v hv
    rw [lkp_kvD] at hv
    split at hv
    · rename_i hm
      simp only [Option.some.injEq] at hv
      refine ⟨((dnum (ys.map fun z : NS => z.d) y.d : Nat) : Int), hv.symm, ?_⟩
      refine br_of (fun h => by simp at h) fun _ => ?_
      unfold ddS
      rw [if_pos hm]
      exact ⟨rfl, St.mkex (t, m) s⟩
    · cases hv
  · intro hv
    rw [lkp_kvD] at hv
    have hm : y.d ∉ ys.map (·.d) := by
      intro hm
      rw [if_pos hm] at hv; cases hv
    refine ⟨0, rfl, ?_⟩
    refine br_of (fun _ => ?_) fun h => by simp at h
    have htl := slA_len1 (s.bring 1).sl
    rw [List.length_map] at htl
    refine s.ld (i := 0) (s := .slice) (p := t) rfl ?_
    rw [drw_def]
    have s1 := s.drew
    refine s1.ld (i := 1) (s := .map) (p := some m) rfl ?_
    refine b2s_of (hyat s1) ?_
    refine St.mapPut (T := strKT) (k := y.d) (s1.bring 2) ?_ ?_
    · intro j u w' hj
      exfalso
      have := List.mem_map_of_mem (f := fun x : List UInt8 × Value => x.1) (List.mem_of_getElem? hj)
      rw [kvD_keys] at this
      exact hm this
    · intro _ w2 s2
      rw [htl, show ys.length = (ys.map (·.d)).length by simp] at s2
      rw [← kvD_app] at s2
      have s2 : St F w w2 [MapA strKT m (kvD (ys.map (·.d) ++ [y.d])), BoxA b [slV t, .map (some m)], SlA 1 t (ys.map fun y => slV y.ds)] := s2
      refine (s2.bring 1).ld (i := 0) (s := .slice) (p := t) rfl ?_
      refine St.nw s2 fun r w3 s3 _ _ => ?_
      refine (s3.bring 3).app (new := [slV y.ds]) (fun _ => rfl) (fun h => by cases h) (readsAt_row.2 s3.box.row) (by simp [NotAgg]) rfl (by decide) (by dsimp only; omega) fun t2 w4 s4 _ => ?_
      have s4 : St F w w4 [SlA 1 t2 ((ys.map fun y => slV y.ds) ++ [slV y.ds]), BoxA r [slV y.ds], MapA strKT m (kvD (ys.map (·.d) ++ [y.d])), BoxA b [slV t, .map (some m)]] := s4
      refine (s4.bring 3).st (i := 0) (by simp) trivial fun w5 s5 => ?_
      have e : ddS ys y = ys ++ [y] := by unfold ddS; rw [if_neg hm]
      rw [e]
      refine ⟨?_, St.mkex (t2, m) ?_⟩
      · unfold dnum
        rw [List.map_append, List.findIdx_append, if_neg]
        · rw [show (List.map (fun z : NS => z.d) [y]).findIdx (fun x => x == y.d) = 0 by simp [List.findIdx_cons], List.length_map, Nat.zero_add, htl]
        · intro hlt
          have := List.findIdx_getElem (w := hlt)
          exact hm (by have h2 := eq_of_beq this; rw [← h2]; exact List.getElem_mem _)
      · have s6 := s5.sel [0, 1, 3] 4
        show St F w w5 [BoxA b [slV t2, .map (some m)], SlA 1 t2 ((ys ++ [y]).map fun y => slV y.ds), MapA strKT m (kvD ((ys ++ [y]).map (·.d)))]
        rw [List.map_append, List.map_append]
        exact s6

theorem Y24 (g : GS) (w : World) (hg : RG w noF g) : Calls Tryd.prog 17 #[g.v] w (RetT [.c .ptr] fun r w' => ∃ b : Nat, r = some ⟨b, 0, none⟩ ∧ St noF w w' [DLA b (ddN g.xs)]) := by
  refine F17_calls g.gn g.gr _ _ ?_
  unfold F17
  simp only [deref_some']
  have hnl := hg.nl
  have hn2 := hg.sm.nl
  refine St.nw (St.init0 w) fun r w1 s1 _ _ => s1.newMap (T := strKT) fun m w2 s2 => St.nw s2 fun b w3 s3 _ _ => ?_
  have s4 : St noF w w3 [DLA b [], BoxA r [slV g.gn, slV g.gr]] := by
    refine St.mkex (⟨none, 0, 0⟩, m) ?_
    exact (s3.nosl 1).sel [1, 0, 2, 3] 4
  refine (s4.bring 1).ld (i := 0) (s := .slice) (p := g.gn) rfl ?_
  refine loop_of (fun z W => ∃ j : Nat, z = j ∧ j ≤ g.xs.length ∧ St noF w W [DLA b ((g.xs.take j).foldl ddS []), BoxA r [slV g.gn, slV g.gr]])
    (fun z _ => g.xs.length - z.toNat) ⟨0, rfl, by omega, s4⟩ ?_
  rintro _ W ⟨j, rfl, hj, s⟩
  refine br_of (fun hlt => ?_) fun hge => ?_
  · simp only [decide_eq_true_eq] at hlt
    have hjl : j < g.xs.length := by omega
    refine ⟨⟨by omega, by omega⟩, ?_⟩
    rw [Int.toNat_natCast]
    have hxi : g.xs[j]? = some g.xs[j] := by simp [hjl]
    have hxm : g.xs[j] ∈ g.xs := List.getElem_mem hjl
    have etk : (g.xs.take (j + 1)).foldl ddS [] = ddS ((g.xs.take j).foldl ddS []) g.xs[j] := by
      rw [List.take_add_one, List.getElem?_eq_getElem hjl, List.foldl_append]; rfl
    refine (hg.grow s.gro).node hxi ?_
    generalize g.xs[j] = x at hxi hxm etk ⊢
    refine St.nw s fun r3 w4 s4 _ _ => s4.st (i := 0) (by simp) trivial fun w5 s5 => s5.st (i := 1) (by simp) trivial fun w6 s6 => s6.st (i := 2) (by simp) trivial fun w7 s7 => ?_
    have s7 : St noF w w7 [BoxA r3 (ncells x), DLA b ((g.xs.take j).foldl ddS []), BoxA r [slV g.gn, slV g.gr]] := s7
    refine s7.ld (i := 2) (s := .slice) (p := x.ds) rfl ?_
    have hgg := hg.grow s7.gro
    obtain ⟨F, H, _, h1, h2, h3, h4, h5⟩ := (s7.bring 1).call1
    have hgF : RG w7 F g := hg.go (s7.bring 1) h4
    have hdl := dd_len (g.xs.take j) []
    rw [List.length_nil, List.length_take] at hdl
    refine callF_of (Y26 b _ x w7 F h1 (hgF.bd x hxm) (hgF.no4 x hxm) (by omega)) ?_
    rintro _ w8 ⟨rfl, s8⟩
    have s9 := h5 w8 _ s8
    rw [← etk] at s9
    rw [succ_i64 (by omega)]
    exact ⟨⟨j + 1, rfl, by omega, s9.sel [0, 2] 3⟩, by omega⟩
  · simp only [decide_eq_false_iff_not] at hge
    rw [List.take_of_length_le (by omega)] at s
    exact ⟨b, rfl, s.sel [0] 2⟩

theorem na_of {v : Value} {k : Pr} {w : World} (h : NotAgg v) (hk : k w) : na v k w := by
  cases v <;> first | exact hk | exact h.elim

theorem Y23 (at' : Int) (e : Value) (w : World) (he : NotAgg e) : Calls Tryd.prog 16 #[.int .i64 at', e] w (RetT [.c .any] fun r w' => ∃ b : Nat, r = .iface 83 (.pointer (some ⟨b, 0, none⟩)) ∧ St noF w w' [BoxA b [.int .i64 at', e]]) := by
  refine F16_calls at' e _ _ ?_
  unfold F16
  refine na_of he ?_
  exact St.nw (St.init0 w) fun b w1 s1 _ _ => ⟨b, rfl, s1⟩
end Go.Proofs


/-! Data in the reference. -/
set_option maxRecDepth 20000
namespace Go.Proofs
open Go.Eng

theorem dnum_app {ds : List (List UInt8)} {d x : List UInt8} (h : d ∈ ds) : dnum (ds ++ [x]) d = dnum ds d := by
  unfold dnum
  rw [List.findIdx_append, if_pos (List.findIdx_lt_length_of_exists ⟨d, h, by simp⟩)]
theorem dnum_dmS {ds : List (List UInt8)} {d x : List UInt8} (h : d ∈ ds) : dnum (dmS ds x) d = dnum ds d := by
  unfold dmS
  split
  · rfl
  · exact dnum_app h
theorem dmS_sub {ds : List (List UInt8)} {d x : List UInt8} (h : d ∈ ds) : d ∈ dmS ds x := by
  unfold dmS
  split
  · exact h
  · exact List.mem_append_left _ h
theorem dmS_in (ds : List (List UInt8)) (d : List UInt8) : d ∈ dmS ds d := by
  unfold dmS
  split
  · assumption
  · simp
theorem dmF_sub {d : List UInt8} (l : List (List UInt8)) : ∀ ds, d ∈ ds → d ∈ l.foldl dmS ds := by
  induction l with
  | nil => exact fun _ h => h
  | cons x l ih => exact fun ds h => ih _ (dmS_sub h)
theorem dmF_in {d : List UInt8} (l : List (List UInt8)) : ∀ ds, d ∈ l → d ∈ l.foldl dmS ds := by
  induction l with
  | nil => intro ds h; cases h
  | cons x l ih =>
    intro ds h
    rcases List.mem_cons.1 h with rfl | h
    · exact dmF_sub l _ (dmS_in ds _)
    · exact ih _ h
theorem ddS_map (ys : List NS) (y : NS) : (ddS ys y).map (·.d) = dmS (ys.map (·.d)) y.d := by
  unfold ddS dmS
  split
  · rfl
  · rw [List.map_append]; rfl
theorem dnum_eq {ds : List (List UInt8)} {d : List UInt8} {k : Nat} (h1 : k < ds.length) (h2 : ds[k] = d) (h3 : ∀ j (h : j < ds.length), j < k → ds[j] ≠ d) : dnum ds d = k := by
  unfold dnum
  rw [List.findIdx_eq h1]
  refine ⟨by simp [h2], fun j hj => by simpa using h3 j (by omega) hj⟩

end Go.Proofs

/-! Strings turned into bytes. -/
set_option maxRecDepth 20000
namespace Go.Proofs
open Go.Eng

theorem frz_alloc (w : World) (cs : Array Value) (E : TypeId) (n : Nat) : (w.alloc (.cells cs E)).freeze ⟨w.heap.size, n, none⟩ 1 = w.alloc (.cells cs E (n, n + 1)) := by
  unfold World.freeze World.alloc
  rw [if_neg (by decide)]
  congr 1
  apply Array.ext_getElem?
  intro i
  rw [Array.getElem?_modify]
  rcases Nat.lt_trichotomy w.heap.size i with h | h | h
  · rw [if_neg (by dsimp only; omega), Array.getElem?_eq_none (by simp; omega), Array.getElem?_eq_none (by simp; omega)]
  · subst h
    rw [if_pos rfl]
    simp
  · rw [if_neg (by dsimp only; omega), Array.getElem?_push_lt h, Array.getElem?_push_lt h]

theorem frz_cell (w : World) (cs : Array Value) (E : TypeId) (n o : Nat) : (w.alloc (.cells cs E (n, n + 1))).cell? ⟨w.heap.size, o, none⟩ = cs[o]? := by
  unfold World.cell? World.alloc
  simp
theorem frz_frozen (w : World) (cs : Array Value) (E : TypeId) (n o : Nat) : (w.alloc (.cells cs E (n, n + 1))).frozen? ⟨w.heap.size, o, none⟩ = (decide (n ≤ o) && decide (o < n + 1)) := by
  unfold World.frozen? World.alloc
  simp

theorem frz_own {F0 : Nat → Prop} {w0 w : World} {L : List HA} {cs : Array Value} {E : TypeId} {vs spare : List Value} {n : Nat} (h : St F0 w0 w L) (hc : cs.toList = vs ++ spare) (hn : n = vs.length) :
    St F0 w0 ((w.alloc (.cells cs E)).freeze ⟨w.heap.size, cs.size, none⟩ 1) (SlA 1 ⟨some ⟨w.heap.size, 0, none⟩, n, cs.size⟩ vs :: L) := by
  rw [frz_alloc]
  have hsz : cs.size = (vs ++ spare).length := by rw [← hc]; simp
  refine h.mksl ((Mod.refl _ w).alloc _) ⟨by simp [hn], by rw [hn, hsz]; simp, .inr ⟨w.heap.size, 0, spare, rfl, Nat.le_refl _, by simp, fun o v hv => ?_, ?_, by rw [← hsz]; simp⟩⟩
  · rw [frz_cell] at hv
    rw [frz_frozen]
    have : o < cs.size := (Array.getElem?_eq_some_iff.1 hv).1
    rw [decide_eq_false (by omega)]
    rfl
  · intro j v hj
    rw [add_mk, Nat.zero_add, frz_cell, ← hj, ← hc]
    simp

theorem St.nwMark {F0 : Nat → Prop} {w0 w : World} {L : List HA} {cs : Array Value} {E : TypeId} {k : Nat → Pr} (h : St F0 w0 w L)
    (hk : ∀ r w', St F0 w0 w' (SlA 1 ⟨some ⟨r, 0, none⟩, cs.size, cs.size⟩ cs.toList :: L) → k r w') : nw (.cells cs E) (fun r => markS ⟨r, 0, none⟩ (k r)) w := by
  rw [nw_def]
  refine ⟨E, cs.size, by unfold World.shape? World.alloc; simp, ?_⟩
  exact hk _ _ (frz_own h (vs := cs.toList) (spare := []) (by simp) (by simp))

theorem St.s2b {F0 : Nat → Prop} {w0 w : World} {L : List HA} {l : List UInt8} {k : Sl → Pr} (h : St F0 w0 w L) (hl : l.length < 2 ^ 63)
    (hk : ∀ r w', St F0 w0 w' (SlA 1 r (l.map ub) :: L) → k r w') : Eng.s2b 5 (bytesOf l) k w := by
  refine ⟨hl, fun cap h1 h2 => ?_⟩
  rw [show w.heap.size = w.drew.heap.size from rfl]
  have hb : (bcells (bytesOf l) cap).toList = l.map ub ++ List.replicate (cap - l.length) (.int .u8 0) := by
    unfold bcells bytesOf
    simp [ByteArray.size]
    intro a _
    rfl
  have hsz : (bcells (bytesOf l) cap).size = cap := by
    rw [← Array.length_toList, hb]
    have : l.length ≤ cap := h1
    simp; omega
  have h3 := frz_own (E := 5) h.drew hb (n := l.length) (by simp)
  rw [hsz] at h3 ⊢
  exact hk _ _ h3

/-- bytes are appended -/
theorem app_by {F0 : Nat → Prop} {w0 w : World} {L : List HA} {s x : Sl} {pre l : List UInt8} {k : Sl → Pr} (h : St F0 w0 w (SlA 1 s (pre.map ub) :: L)) (hx : BS w x l) (hl : pre.length ≤ 100000000) (hll : l.length ≤ 100000000)
    (hk : ∀ r w', St F0 w0 w' (SlA 1 r ((pre ++ l).map ub) :: L) → k r w') : app 5 1 1 [.int .u8 0] s x k w := by
  have hsl := slA_len1 h.sl
  have hxl := hx.len
  rw [List.length_map] at hsl
  refine h.app (new := l.map ub) (fun _ => by simp [hxl]) hx.ms.none_len hx.row (by intro v hv; obtain ⟨_, _, rfl⟩ := List.mem_map.1 hv; trivial) rfl (by decide) (by omega) fun r w' s' _ => hk r w' ?_
  rw [List.map_append]
  exact s'

/-! ### what is packed -/

def magicL : List UInt8 := [97, 116, 116, 105, 99, 32, 97, 10]
def datB (x : List UInt8) : List UInt8 := uvB x.length ++ x
def nodB (ds : List (List UInt8)) (n : GN) : List UInt8 := uvsB [n.k, (dnum ds n.d : Int), (n.p.length : Int)] ++ n.p.flatMap fun p => uvB (p + 1).toNat
def rootB (r : RM) : List UInt8 := datB r.1 ++ uvB r.2.toNat
def bodyB (G : GG) (ds : List (List UInt8)) : List UInt8 := magicL ++ uvB ds.length ++ ds.flatMap datB ++ uvB G.n.length ++ G.n.flatMap (nodB ds) ++ uvB G.r.length ++ G.r.flatMap rootB
def packB (G : GG) : List UInt8 := sealM (bodyB G (dataL G))

/-- what may be packed -/
structure GG.tiny (G : GG) : Prop where
  nl : G.n.length ≤ 8192
  rl : G.r.length ≤ 512
  kk : ∀ n ∈ G.n, 0 ≤ n.k ∧ n.k ≤ 3
  pl : ∀ n ∈ G.n, n.p.length ≤ 126
  pr : ∀ n ∈ G.n, ∀ p ∈ n.p, -1 ≤ p ∧ p < G.n.length
  dl : ∀ n ∈ G.n, n.d.length ≤ 1008
  sl : ∀ r ∈ G.r, r.1.length ≤ 16
  rr : ∀ r ∈ G.r, 0 ≤ r.2 ∧ r.2 < G.n.length

theorem flatMap_le {α : Type} {f : α → List UInt8} {K : Nat} : ∀ {l : List α}, (∀ x ∈ l, (f x).length ≤ K) → (l.flatMap f).length ≤ K * l.length
  | [], _ => by simp
  | x :: l, h => by
    have h1 := h x (List.mem_cons_self ..)
    have h2 := flatMap_le (l := l) fun y hy => h y (List.mem_cons_of_mem _ hy)
    rw [List.flatMap_cons, List.length_append, List.length_cons, Nat.mul_add]
    omega
theorem flatMap_take {α : Type} {f : α → List UInt8} {K : Nat} {l : List α} (h : ∀ x ∈ l, (f x).length ≤ K) (i : Nat) : ((l.take i).flatMap f).length ≤ K * l.length := by
  have h1 := flatMap_le (l := l.take i) fun x hx => h x (List.mem_of_mem_take hx)
  have h2 : (l.take i).length ≤ l.length := by rw [List.length_take]; omega
  exact Nat.le_trans h1 (Nat.mul_le_mul_left _ h2)

theorem datB_len {x : List UInt8} (h : x.length ≤ 1008) : (datB x).length ≤ 1018 := by
  unfold datB
  rw [List.length_append]
  have := uvB_len x.length
  omega
theorem nodB_len {ds : List (List UInt8)} {n : GN} (h : n.p.length ≤ 126) : (nodB ds n).length ≤ 1290 := by
  unfold nodB
  rw [List.length_append]
  have h1 := uvsB_len [n.k, (dnum ds n.d : Int), (n.p.length : Int)]
  have h2 := flatMap_le (f := fun p : Int => uvB (p + 1).toNat) (K := 10) (l := n.p) fun p _ => uvB_len _
  simp only [List.length_cons, List.length_nil] at h1
  omega
theorem rootB_len {r : RM} (h : r.1.length ≤ 16) : (rootB r).length ≤ 36 := by
  unfold rootB datB
  rw [List.length_append, List.length_append]
  have := uvB_len r.1.length
  have := uvB_len r.2.toNat
  omega

theorem dataL_of (G : GG) : ∀ d ∈ dataL G, ∃ n ∈ G.n, n.d = d := by
  have key : ∀ (l : List (List UInt8)) ds, ∀ d ∈ l.foldl dmS ds, d ∈ ds ∨ d ∈ l := by
    intro l
    induction l with
    | nil => intro ds d h; exact .inl h
    | cons x l ih =>
      intro ds d h
      rcases ih _ d h with h | h
      · unfold dmS at h
        split at h
        · exact .inl h
        · rcases List.mem_append.1 h with h | h
          · exact .inl h
          · exact .inr (List.mem_cons.2 (.inl (by simpa using h)))
      · exact .inr (List.mem_cons_of_mem _ h)
  intro d hd
  rcases key _ _ d hd with h | h
  · cases h
  · exact List.mem_map.1 h
theorem dataL_in {G : GG} {n : GN} (h : n ∈ G.n) : n.d ∈ dataL G := dmF_in _ _ (List.mem_map.2 ⟨n, h, rfl⟩)
theorem dataL_len (G : GG) : (dataL G).length ≤ G.n.length := by
  have key : ∀ (l ds : List (List UInt8)), (l.foldl dmS ds).length ≤ ds.length + l.length := by
    intro l
    induction l with
    | nil => intro ds; simp
    | cons x l ih =>
      intro ds
      have := ih (dmS ds x)
      have h2 : (dmS ds x).length ≤ ds.length + 1 := by unfold dmS; split <;> simp
      rw [List.foldl_cons, List.length_cons]
      omega
  have := key (G.n.map (·.d)) []
  simpa [dataL] using this
theorem dnum_lt {ds : List (List UInt8)} {d : List UInt8} (h : d ∈ ds) : dnum ds d < ds.length := List.findIdx_lt_length_of_exists ⟨d, h, by simp⟩

theorem okG_tiny {G : GG} (h : okG G = true) : G.tiny := by
  have h' := h
  unfold okG at h'
  simp only [Bool.and_eq_true, decide_eq_true_eq] at h'
  have hs : ∀ n ∈ G.n, _ := fun n hn => okG_node h hn
  refine ⟨by omega, by omega, fun n hn => ?_, fun n hn => ?_, fun n hn => (hs n hn).2, fun n hn => ?_, fun r hr => ?_, fun r hr => (okG_root h hr).2⟩
  · have h1 := (hs n hn).1
    unfold shapeM at h1
    simp only [Bool.and_eq_true, decide_eq_true_eq] at h1
    omega
  · have h1 := (hs n hn).1
    unfold shapeM at h1
    simp only [Bool.and_eq_true, decide_eq_true_eq] at h1
    omega
  · have h1 := (hs n hn).1
    unfold shapeM at h1
    simp only [Bool.and_eq_true, decide_eq_true_eq] at h1
    omega
  · have h1 := (okG_root h hr).1
    unfold nameM at h1
    simp only [Bool.and_eq_true, decide_eq_true_eq] at h1
    omega

theorem keptG_tiny {G : GG} (h : G.tiny) : (keptG G).tiny := by
  refine ⟨by simpa [keptG] using h.nl, h.rl, fun x hx => ?_, fun x hx => ?_, fun x hx p hp => ?_, fun x hx => ?_, h.sl, by simpa [keptG] using h.rr⟩
  all_goals
    simp only [keptG, List.mem_map] at hx
    obtain ⟨y, hy, rfl⟩ := hx
  · exact h.kk y hy
  · simpa [keptM] using h.pl y hy
  · simp only [keptM, List.mem_map] at hp
    obtain ⟨q, hq, rfl⟩ := hp
    have := h.pr y hy q hq
    simp only [keptG, List.length_map]
    split <;> omega
  · exact h.dl y hy
theorem numM_tiny {G : GG} {l : List Int} (h : NumOk G l) (hs : G.tiny) : (numM G l).tiny := by
  have hle := h.le
  have hw := numM_wf h
  have hat : ∀ x ∈ l, nodeAt G x ∈ G.n := fun x hx => nodeAt_mem (by have := h.rng x hx; omega)
  refine ⟨by simp only [numM, List.length_map]; have := hs.nl; omega, by simpa [numM] using hs.rl, fun n hn => ?_, fun n hn => ?_, fun n hn p hp => ⟨?_, hw.p n hn p hp⟩, fun n hn => ?_, fun r hr => ?_, hw.r⟩
  · simp only [numM, List.mem_map] at hn
    obtain ⟨x, hx, rfl⟩ := hn
    exact hs.kk (nodeAt G x) (hat x hx)
  · simp only [numM, List.mem_map] at hn
    obtain ⟨x, hx, rfl⟩ := hn
    simpa [renN] using hs.pl _ (hat x hx)
  · simp only [numM, List.mem_map] at hn
    obtain ⟨x, hx, rfl⟩ := hn
    simp only [renN, List.mem_map] at hp
    obtain ⟨q, hq, rfl⟩ := hp
    have := (hs.pr _ (hat x hx) q hq).1
    unfold renP
    split <;> omega
  · simp only [numM, List.mem_map] at hn
    obtain ⟨x, hx, rfl⟩ := hn
    exact hs.dl (nodeAt G x) (hat x hx)
  · simp only [numM, List.mem_map] at hr
    obtain ⟨q, hq, rfl⟩ := hr
    exact hs.sl q hq
theorem can_tiny {G : GG} (h : okG G = true) : (canM G).tiny :=
  numM_tiny (numOk_canon (cleared_wf h)) (numM_tiny (numOk_kept h) (keptG_tiny (okG_tiny h)))
end Go.Proofs


/-! The reference's archive. -/
set_option maxRecDepth 20000
namespace Go.Proofs
open Go.Eng

theorem both_of {x y : Pr} {w : World} (hx : x w) (hy : y w) : both x y w := ⟨hx, hy⟩
theorem owe_of {p : Prop} {x : Pr} {w : World} (hp : p) (hx : x w) : owe p x w := ⟨hp, hx⟩

theorem take_flat {α : Type} {f : α → List UInt8} {l : List α} {i : Nat} (h : i < l.length) : (l.take (i + 1)).flatMap f = (l.take i).flatMap f ++ f l[i] := by
  rw [List.take_add_one, List.getElem?_eq_getElem h, List.flatMap_append]
  simp

end Go.Proofs

set_option maxRecDepth 100000
namespace Go.Proofs
open Go.Eng

/-! attic/archive.Pack -/
def an6 : An := (.sq .z (.sq .z (.sq (.sq .z (.br (.sq .z .z) .z)) (.sq .z (.sq .z (.sq (.sq .z (.bl (.lp [(7, .c .slice), (42, .c (.int .i64))] (.sq .z (.sq (.br .z .z) (.sq (.bl (.sq .z .z)) .z)))))) (.sq .z (.sq (.sq .z (.bl (.lp [(7, .c .slice), (63, .c (.int .i64))] (.sq .z (.sq (.br .z .z) (.sq (.bl (.sq .z (.sq (.jn [(7, .c .slice)] .z) (.sq .z (.bl (.lp [(7, .c .slice), (82, .c (.int .i64))] (.sq .z (.sq (.br .z .z) (.sq (.bl (.sq .z .z)) .z))))))))) .z)))))) (.sq .z (.sq (.sq .z (.bl (.lp [(7, .c .slice), (102, .c (.int .i64))] (.sq .z (.sq (.br .z .z) (.sq (.jn [(7, .c .slice)] (.bl (.sq .z .z))) .z)))))) (.sq .z .z)))))))))))

def F6 (p0_0 : Sl) (p0_1 : Sl) (Q : Sl × Value → Pr) : Pr :=
  nw (.cells #[(.slice p0_0.a p0_0.len p0_0.cap), (.slice p0_1.a p0_1.len p0_1.cap)] 25) fun r =>
  deref (some ⟨r, 0, none⟩) fun a =>
  ldA [.slice, .slice] a fun (t17 : Sl × Sl) =>
  callF Tryd.prog 15 [(.agg #[(.slice t17.1.a t17.1.len t17.1.cap), (.slice t17.2.a t17.2.len t17.2.cap)])] [.agg [.slice, .slice], .c (.int .i64)] fun (t18 : (Sl × Sl) × Int) =>
  nw (.cells #[(.slice none 0 0), (.slice none 0 0)] 25) fun r_1 =>
  deref (some ⟨r_1, 0, none⟩) fun a_1 =>
  st (a_1.add 0) (.slice t18.1.1.a t18.1.1.len t18.1.1.cap) <|
  st (a_1.add 1) (.slice t18.1.2.a t18.1.2.len t18.1.2.cap) <|
  br (t18.2 != 0) (
  callF Tryd.prog 16 [(.int .i64 0), (.iface 33 (.int .i64 t18.2))] [.c .any] fun (t25 : Value) =>
  Q (⟨none, 0, 0⟩, t25)) (
  deref (some ⟨r_1, 0, none⟩) fun a_2 =>
  ldA [.slice, .slice] a_2 fun (t26 : Sl × Sl) =>
  callF Tryd.prog 17 [(.agg #[(.slice t26.1.a t26.1.len t26.1.cap), (.slice t26.2.a t26.2.len t26.2.cap)])] [.c .ptr] fun (t27 : Option Addr) =>
  nw (.cells #[(.int .u8 97), (.int .u8 116), (.int .u8 116), (.int .u8 105), (.int .u8 99), (.int .u8 32), (.int .u8 97), (.int .u8 10)] 5) fun r_2 =>
  deref (some ⟨r_2, 0, none⟩) fun a_3 =>
  markS a_3 <|
  deref t27 fun a_4 =>
  deref (some a_4) fun a_5 =>
  deref (some (a_5.add 0)) fun a_6 =>
  ldC .slice a_6 fun (t33 : Sl) =>
  nw (.cells #[(.int .i64 (t33.len : Int))] 3) fun r_3 =>
  callF Tryd.prog 18 [(.slice (some a_3) 8 8), (.slice (some ⟨r_3, 0, none⟩) 1 1)] [.c .slice] fun (t36 : Sl) =>
  deref t27 fun a_7 =>
  deref (some a_7) fun a_8 =>
  deref (some (a_8.add 0)) fun a_9 =>
  ldC .slice a_9 fun (t40 : Sl) =>
  loopE (S := Sl × Int) (fun X s =>
  br (decide (s.2 < (t40.len : Int))) (
  owe ((0 : Int) ≤ s.2 ∧ s.2 < (t40.len : Int)) <|
  deref t40.a fun a_10 =>
  deref (some (a_10.add (Int.toNat s.2 * 1))) fun a_11 =>
  ldC .slice a_11 fun (t45 : Sl) =>
  nw (.cells #[(.int .i64 (t45.len : Int))] 3) fun r_4 =>
  callF Tryd.prog 18 [(.slice s.1.a s.1.len s.1.cap), (.slice (some ⟨r_4, 0, none⟩) 1 1)] [.c .slice] fun (t50 : Sl) =>
  app 5 1 1 [(.int .u8 0)] t50 t45 fun t52 =>
  X (t52, (IntKind.wrap .i64 (s.2 + 1)))) (
  deref (some ⟨r_1, 0, none⟩) fun a_12 =>
  deref (some (a_12.add 0)) fun a_13 =>
  ldC .slice a_13 fun (t56 : Sl) =>
  nw (.cells #[(.int .i64 (t56.len : Int))] 3) fun r_5 =>
  callF Tryd.prog 18 [(.slice s.1.a s.1.len s.1.cap), (.slice (some ⟨r_5, 0, none⟩) 1 1)] [.c .slice] fun (t59 : Sl) =>
  deref (some ⟨r_1, 0, none⟩) fun a_14 =>
  deref (some (a_14.add 0)) fun a_15 =>
  ldC .slice a_15 fun (t61 : Sl) =>
  loopE (S := Sl × Int) (fun X_1 s_1 =>
  br (decide (s_1.2 < (t61.len : Int))) (
  owe ((0 : Int) ≤ s_1.2 ∧ s_1.2 < (t61.len : Int)) <|
  deref t61.a fun a_16 =>
  deref (some (a_16.add (Int.toNat s_1.2 * 3))) fun a_17 =>
  ldA [(.int .i64), .slice, .slice] a_17 fun (t66 : Int × Sl × Sl) =>
  nw (.cells #[(.int .i64 0), (.slice none 0 0), (.slice none 0 0)] 38) fun r_6 =>
  deref (some ⟨r_6, 0, none⟩) fun a_18 =>
  st (a_18.add 0) (.int .i64 t66.1) <|
  st (a_18.add 1) (.slice t66.2.1.a t66.2.1.len t66.2.1.cap) <|
  st (a_18.add 2) (.slice t66.2.2.a t66.2.2.len t66.2.2.cap) <|
  jn (S := Sl) (fun R =>
  drw <|
  deref (some ⟨r_6, 0, none⟩) fun a_19 =>
  deref (some ⟨r_6, 0, none⟩) fun a_20 =>
  deref (some (a_20.add 2)) fun a_21 =>
  ldC .slice a_21 fun (t72 : Sl) =>
  deref (some ⟨r_6, 0, none⟩) fun a_22 =>
  both (
  deref (some (a_19.add 0)) fun a_23 =>
  ldC (.int .i64) a_23 fun (t69 : Int) =>
  both (
  callF Tryd.prog 19 [(.pointer t27), (.slice t72.a t72.len t72.cap)] [.c (.int .i64)] fun (t73 : Int) =>
  deref (some (a_22.add 1)) fun a_24 =>
  ldC .slice a_24 fun (t75 : Sl) =>
  nw (.cells #[(.int .i64 t69), (.int .i64 t73), (.int .i64 (t75.len : Int))] 3) fun r_7 =>
  callF Tryd.prog 18 [(.slice s_1.1.a s_1.1.len s_1.1.cap), (.slice (some ⟨r_7, 0, none⟩) 3 3)] [.c .slice] fun (t78 : Sl) =>
  R t78) (
  deref (some (a_22.add 1)) fun a_25 =>
  ldC .slice a_25 fun (t75_1 : Sl) =>
  callF Tryd.prog 19 [(.pointer t27), (.slice t72.a t72.len t72.cap)] [.c (.int .i64)] fun (t73_1 : Int) =>
  nw (.cells #[(.int .i64 t69), (.int .i64 t73_1), (.int .i64 (t75_1.len : Int))] 3) fun r_8 =>
  callF Tryd.prog 18 [(.slice s_1.1.a s_1.1.len s_1.1.cap), (.slice (some ⟨r_8, 0, none⟩) 3 3)] [.c .slice] fun (t78_1 : Sl) =>
  R t78_1)) (
  both (
  callF Tryd.prog 19 [(.pointer t27), (.slice t72.a t72.len t72.cap)] [.c (.int .i64)] fun (t73_2 : Int) =>
  deref (some (a_19.add 0)) fun a_26 =>
  ldC (.int .i64) a_26 fun (t69_1 : Int) =>
  deref (some (a_22.add 1)) fun a_27 =>
  ldC .slice a_27 fun (t75_2 : Sl) =>
  nw (.cells #[(.int .i64 t69_1), (.int .i64 t73_2), (.int .i64 (t75_2.len : Int))] 3) fun r_9 =>
  callF Tryd.prog 18 [(.slice s_1.1.a s_1.1.len s_1.1.cap), (.slice (some ⟨r_9, 0, none⟩) 3 3)] [.c .slice] fun (t78_2 : Sl) =>
  R t78_2) (
  deref (some (a_22.add 1)) fun a_28 =>
  ldC .slice a_28 fun (t75_3 : Sl) =>
  both (
  deref (some (a_19.add 0)) fun a_29 =>
  ldC (.int .i64) a_29 fun (t69_2 : Int) =>
  callF Tryd.prog 19 [(.pointer t27), (.slice t72.a t72.len t72.cap)] [.c (.int .i64)] fun (t73_3 : Int) =>
  nw (.cells #[(.int .i64 t69_2), (.int .i64 t73_3), (.int .i64 (t75_3.len : Int))] 3) fun r_10 =>
  callF Tryd.prog 18 [(.slice s_1.1.a s_1.1.len s_1.1.cap), (.slice (some ⟨r_10, 0, none⟩) 3 3)] [.c .slice] fun (t78_3 : Sl) =>
  R t78_3) (
  callF Tryd.prog 19 [(.pointer t27), (.slice t72.a t72.len t72.cap)] [.c (.int .i64)] fun (t73_4 : Int) =>
  deref (some (a_19.add 0)) fun a_30 =>
  ldC (.int .i64) a_30 fun (t69_3 : Int) =>
  nw (.cells #[(.int .i64 t69_3), (.int .i64 t73_4), (.int .i64 (t75_3.len : Int))] 3) fun r_11 =>
  callF Tryd.prog 18 [(.slice s_1.1.a s_1.1.len s_1.1.cap), (.slice (some ⟨r_11, 0, none⟩) 3 3)] [.c .slice] fun (t78_4 : Sl) =>
  R t78_4)))) fun s_2 =>
  deref (some ⟨r_6, 0, none⟩) fun a_31 =>
  deref (some (a_31.add 1)) fun a_32 =>
  ldC .slice a_32 fun (t80 : Sl) =>
  loopE (S := Sl × Int) (fun X_2 s_3 =>
  br (decide (s_3.2 < (t80.len : Int))) (
  owe ((0 : Int) ≤ s_3.2 ∧ s_3.2 < (t80.len : Int)) <|
  deref t80.a fun a_33 =>
  deref (some (a_33.add (Int.toNat s_3.2 * 1))) fun a_34 =>
  ldC (.int .i64) a_34 fun (t85 : Int) =>
  nw (.cells #[(.int .i64 (IntKind.wrap .i64 (t85 + 1)))] 3) fun r_12 =>
  callF Tryd.prog 18 [(.slice s_3.1.a s_3.1.len s_3.1.cap), (.slice (some ⟨r_12, 0, none⟩) 1 1)] [.c .slice] fun (t90 : Sl) =>
  X_2 (t90, (IntKind.wrap .i64 (s_3.2 + 1)))) (
  X_1 (s_3.1, (IntKind.wrap .i64 (s_1.2 + 1))))) (s_2, 0)) (
  deref (some ⟨r_1, 0, none⟩) fun a_35 =>
  deref (some (a_35.add 1)) fun a_36 =>
  ldC .slice a_36 fun (t95 : Sl) =>
  nw (.cells #[(.int .i64 (t95.len : Int))] 3) fun r_13 =>
  callF Tryd.prog 18 [(.slice s_1.1.a s_1.1.len s_1.1.cap), (.slice (some ⟨r_13, 0, none⟩) 1 1)] [.c .slice] fun (t98 : Sl) =>
  deref (some ⟨r_1, 0, none⟩) fun a_37 =>
  deref (some (a_37.add 1)) fun a_38 =>
  ldC .slice a_38 fun (t100 : Sl) =>
  loopE (S := Sl × Int) (fun X_3 s_4 =>
  br (decide (s_4.2 < (t100.len : Int))) (
  jn (S := Sl) (fun R_1 =>
  owe ((0 : Int) ≤ s_4.2 ∧ s_4.2 < (t100.len : Int)) <|
  deref t100.a fun a_39 =>
  deref (some (a_39.add (Int.toNat s_4.2 * 2))) fun a_40 =>
  ldA [.str, (.int .i64)] a_40 fun (t105 : ByteArray × Int) =>
  nw (.cells #[(.string (⟨#[]⟩ : ByteArray)), (.int .i64 0)] 43) fun r_14 =>
  deref (some ⟨r_14, 0, none⟩) fun a_41 =>
  st (a_41.add 0) (.string t105.1) <|
  st (a_41.add 1) (.int .i64 t105.2) <|
  drw <|
  deref (some ⟨r_14, 0, none⟩) fun a_42 =>
  deref (some (a_42.add 0)) fun a_43 =>
  ldC .str a_43 fun (t108 : ByteArray) =>
  deref (some ⟨r_14, 0, none⟩) fun a_44 =>
  deref (some ⟨r_14, 0, none⟩) fun a_45 =>
  both (
  nw (.cells #[(.int .i64 (t108.size : Int))] 3) fun r_15 =>
  both (
  callF Tryd.prog 18 [(.slice s_4.1.a s_4.1.len s_4.1.cap), (.slice (some ⟨r_15, 0, none⟩) 1 1)] [.c .slice] fun (t111 : Sl) =>
  deref (some (a_44.add 0)) fun a_46 =>
  ldC .str a_46 fun (t113 : ByteArray) =>
  both (
  appS 5 1 1 [(.int .u8 0)] t111 t113 fun t114 =>
  deref (some (a_45.add 1)) fun a_47 =>
  ldC (.int .i64) a_47 fun (t116 : Int) =>
  nw (.cells #[(.int .i64 t116)] 3) fun r_16 =>
  callF Tryd.prog 18 [(.slice t114.a t114.len t114.cap), (.slice (some ⟨r_16, 0, none⟩) 1 1)] [.c .slice] fun (t118 : Sl) =>
  R_1 t118) (
  deref (some (a_45.add 1)) fun a_48 =>
  ldC (.int .i64) a_48 fun (t116_1 : Int) =>
  both (
  appS 5 1 1 [(.int .u8 0)] t111 t113 fun t114_1 =>
  nw (.cells #[(.int .i64 t116_1)] 3) fun r_17 =>
  callF Tryd.prog 18 [(.slice t114_1.a t114_1.len t114_1.cap), (.slice (some ⟨r_17, 0, none⟩) 1 1)] [.c .slice] fun (t118_1 : Sl) =>
  R_1 t118_1) (
  nw (.cells #[(.int .i64 t116_1)] 3) fun r_18 =>
  appS 5 1 1 [(.int .u8 0)] t111 t113 fun t114_2 =>
  callF Tryd.prog 18 [(.slice t114_2.a t114_2.len t114_2.cap), (.slice (some ⟨r_18, 0, none⟩) 1 1)] [.c .slice] fun (t118_2 : Sl) =>
  R_1 t118_2))) (
  both (
  deref (some (a_44.add 0)) fun a_49 =>
  ldC .str a_49 fun (t113_1 : ByteArray) =>
  both (
  callF Tryd.prog 18 [(.slice s_4.1.a s_4.1.len s_4.1.cap), (.slice (some ⟨r_15, 0, none⟩) 1 1)] [.c .slice] fun (t111_1 : Sl) =>
  both (
  appS 5 1 1 [(.int .u8 0)] t111_1 t113_1 fun t114_3 =>
  deref (some (a_45.add 1)) fun a_50 =>
  ldC (.int .i64) a_50 fun (t116_2 : Int) =>
  nw (.cells #[(.int .i64 t116_2)] 3) fun r_19 =>
  callF Tryd.prog 18 [(.slice t114_3.a t114_3.len t114_3.cap), (.slice (some ⟨r_19, 0, none⟩) 1 1)] [.c .slice] fun (t118_3 : Sl) =>
  R_1 t118_3) (
  deref (some (a_45.add 1)) fun a_51 =>
  ldC (.int .i64) a_51 fun (t116_3 : Int) =>
  both (
  appS 5 1 1 [(.int .u8 0)] t111_1 t113_1 fun t114_4 =>
  nw (.cells #[(.int .i64 t116_3)] 3) fun r_20 =>
  callF Tryd.prog 18 [(.slice t114_4.a t114_4.len t114_4.cap), (.slice (some ⟨r_20, 0, none⟩) 1 1)] [.c .slice] fun (t118_4 : Sl) =>
  R_1 t118_4) (
  nw (.cells #[(.int .i64 t116_3)] 3) fun r_21 =>
  appS 5 1 1 [(.int .u8 0)] t111_1 t113_1 fun t114_5 =>
  callF Tryd.prog 18 [(.slice t114_5.a t114_5.len t114_5.cap), (.slice (some ⟨r_21, 0, none⟩) 1 1)] [.c .slice] fun (t118_5 : Sl) =>
  R_1 t118_5))) (
  deref (some (a_45.add 1)) fun a_52 =>
  ldC (.int .i64) a_52 fun (t116_4 : Int) =>
  both (
  callF Tryd.prog 18 [(.slice s_4.1.a s_4.1.len s_4.1.cap), (.slice (some ⟨r_15, 0, none⟩) 1 1)] [.c .slice] fun (t111_2 : Sl) =>
  both (
  appS 5 1 1 [(.int .u8 0)] t111_2 t113_1 fun t114_6 =>
  nw (.cells #[(.int .i64 t116_4)] 3) fun r_22 =>
  callF Tryd.prog 18 [(.slice t114_6.a t114_6.len t114_6.cap), (.slice (some ⟨r_22, 0, none⟩) 1 1)] [.c .slice] fun (t118_6 : Sl) =>
  R_1 t118_6) (
  nw (.cells #[(.int .i64 t116_4)] 3) fun r_23 =>
  appS 5 1 1 [(.int .u8 0)] t111_2 t113_1 fun t114_7 =>
  callF Tryd.prog 18 [(.slice t114_7.a t114_7.len t114_7.cap), (.slice (some ⟨r_23, 0, none⟩) 1 1)] [.c .slice] fun (t118_7 : Sl) =>
  R_1 t118_7)) (
  nw (.cells #[(.int .i64 t116_4)] 3) fun r_24 =>
  callF Tryd.prog 18 [(.slice s_4.1.a s_4.1.len s_4.1.cap), (.slice (some ⟨r_15, 0, none⟩) 1 1)] [.c .slice] fun (t111_3 : Sl) =>
  appS 5 1 1 [(.int .u8 0)] t111_3 t113_1 fun t114_8 =>
  callF Tryd.prog 18 [(.slice t114_8.a t114_8.len t114_8.cap), (.slice (some ⟨r_24, 0, none⟩) 1 1)] [.c .slice] fun (t118_8 : Sl) =>
  R_1 t118_8))) (
  deref (some (a_45.add 1)) fun a_53 =>
  ldC (.int .i64) a_53 fun (t116_5 : Int) =>
  both (
  callF Tryd.prog 18 [(.slice s_4.1.a s_4.1.len s_4.1.cap), (.slice (some ⟨r_15, 0, none⟩) 1 1)] [.c .slice] fun (t111_4 : Sl) =>
  deref (some (a_44.add 0)) fun a_54 =>
  ldC .str a_54 fun (t113_2 : ByteArray) =>
  both (
  appS 5 1 1 [(.int .u8 0)] t111_4 t113_2 fun t114_9 =>
  nw (.cells #[(.int .i64 t116_5)] 3) fun r_25 =>
  callF Tryd.prog 18 [(.slice t114_9.a t114_9.len t114_9.cap), (.slice (some ⟨r_25, 0, none⟩) 1 1)] [.c .slice] fun (t118_9 : Sl) =>
  R_1 t118_9) (
  nw (.cells #[(.int .i64 t116_5)] 3) fun r_26 =>
  appS 5 1 1 [(.int .u8 0)] t111_4 t113_2 fun t114_10 =>
  callF Tryd.prog 18 [(.slice t114_10.a t114_10.len t114_10.cap), (.slice (some ⟨r_26, 0, none⟩) 1 1)] [.c .slice] fun (t118_10 : Sl) =>
  R_1 t118_10)) (
  both (
  deref (some (a_44.add 0)) fun a_55 =>
  ldC .str a_55 fun (t113_3 : ByteArray) =>
  both (
  callF Tryd.prog 18 [(.slice s_4.1.a s_4.1.len s_4.1.cap), (.slice (some ⟨r_15, 0, none⟩) 1 1)] [.c .slice] fun (t111_5 : Sl) =>
  both (
  appS 5 1 1 [(.int .u8 0)] t111_5 t113_3 fun t114_11 =>
  nw (.cells #[(.int .i64 t116_5)] 3) fun r_27 =>
  callF Tryd.prog 18 [(.slice t114_11.a t114_11.len t114_11.cap), (.slice (some ⟨r_27, 0, none⟩) 1 1)] [.c .slice] fun (t118_11 : Sl) =>
  R_1 t118_11) (
  nw (.cells #[(.int .i64 t116_5)] 3) fun r_28 =>
  appS 5 1 1 [(.int .u8 0)] t111_5 t113_3 fun t114_12 =>
  callF Tryd.prog 18 [(.slice t114_12.a t114_12.len t114_12.cap), (.slice (some ⟨r_28, 0, none⟩) 1 1)] [.c .slice] fun (t118_12 : Sl) =>
  R_1 t118_12)) (
  nw (.cells #[(.int .i64 t116_5)] 3) fun r_29 =>
  callF Tryd.prog 18 [(.slice s_4.1.a s_4.1.len s_4.1.cap), (.slice (some ⟨r_15, 0, none⟩) 1 1)] [.c .slice] fun (t111_6 : Sl) =>
  appS 5 1 1 [(.int .u8 0)] t111_6 t113_3 fun t114_13 =>
  callF Tryd.prog 18 [(.slice t114_13.a t114_13.len t114_13.cap), (.slice (some ⟨r_29, 0, none⟩) 1 1)] [.c .slice] fun (t118_13 : Sl) =>
  R_1 t118_13)) (
  nw (.cells #[(.int .i64 t116_5)] 3) fun r_30 =>
  both (
  callF Tryd.prog 18 [(.slice s_4.1.a s_4.1.len s_4.1.cap), (.slice (some ⟨r_15, 0, none⟩) 1 1)] [.c .slice] fun (t111_7 : Sl) =>
  deref (some (a_44.add 0)) fun a_56 =>
  ldC .str a_56 fun (t113_4 : ByteArray) =>
  appS 5 1 1 [(.int .u8 0)] t111_7 t113_4 fun t114_14 =>
  callF Tryd.prog 18 [(.slice t114_14.a t114_14.len t114_14.cap), (.slice (some ⟨r_30, 0, none⟩) 1 1)] [.c .slice] fun (t118_14 : Sl) =>
  R_1 t118_14) (
  deref (some (a_44.add 0)) fun a_57 =>
  ldC .str a_57 fun (t113_5 : ByteArray) =>
  callF Tryd.prog 18 [(.slice s_4.1.a s_4.1.len s_4.1.cap), (.slice (some ⟨r_15, 0, none⟩) 1 1)] [.c .slice] fun (t111_8 : Sl) =>
  appS 5 1 1 [(.int .u8 0)] t111_8 t113_5 fun t114_15 =>
  callF Tryd.prog 18 [(.slice t114_15.a t114_15.len t114_15.cap), (.slice (some ⟨r_30, 0, none⟩) 1 1)] [.c .slice] fun (t118_15 : Sl) =>
  R_1 t118_15)))))) (
  both (
  deref (some (a_44.add 0)) fun a_58 =>
  ldC .str a_58 fun (t113_6 : ByteArray) =>
  both (
  nw (.cells #[(.int .i64 (t108.size : Int))] 3) fun r_31 =>
  both (
  callF Tryd.prog 18 [(.slice s_4.1.a s_4.1.len s_4.1.cap), (.slice (some ⟨r_31, 0, none⟩) 1 1)] [.c .slice] fun (t111_9 : Sl) =>
  both (
  appS 5 1 1 [(.int .u8 0)] t111_9 t113_6 fun t114_16 =>
  deref (some (a_45.add 1)) fun a_59 =>
  ldC (.int .i64) a_59 fun (t116_6 : Int) =>
  nw (.cells #[(.int .i64 t116_6)] 3) fun r_32 =>
  callF Tryd.prog 18 [(.slice t114_16.a t114_16.len t114_16.cap), (.slice (some ⟨r_32, 0, none⟩) 1 1)] [.c .slice] fun (t118_16 : Sl) =>
  R_1 t118_16) (
  deref (some (a_45.add 1)) fun a_60 =>
  ldC (.int .i64) a_60 fun (t116_7 : Int) =>
  both (
  appS 5 1 1 [(.int .u8 0)] t111_9 t113_6 fun t114_17 =>
  nw (.cells #[(.int .i64 t116_7)] 3) fun r_33 =>
  callF Tryd.prog 18 [(.slice t114_17.a t114_17.len t114_17.cap), (.slice (some ⟨r_33, 0, none⟩) 1 1)] [.c .slice] fun (t118_17 : Sl) =>
  R_1 t118_17) (
  nw (.cells #[(.int .i64 t116_7)] 3) fun r_34 =>
  appS 5 1 1 [(.int .u8 0)] t111_9 t113_6 fun t114_18 =>
  callF Tryd.prog 18 [(.slice t114_18.a t114_18.len t114_18.cap), (.slice (some ⟨r_34, 0, none⟩) 1 1)] [.c .slice] fun (t118_18 : Sl) =>
  R_1 t118_18))) (
  deref (some (a_45.add 1)) fun a_61 =>
  ldC (.int .i64) a_61 fun (t116_8 : Int) =>
  both (
  callF Tryd.prog 18 [(.slice s_4.1.a s_4.1.len s_4.1.cap), (.slice (some ⟨r_31, 0, none⟩) 1 1)] [.c .slice] fun (t111_10 : Sl) =>
  both (
  appS 5 1 1 [(.int .u8 0)] t111_10 t113_6 fun t114_19 =>
  nw (.cells #[(.int .i64 t116_8)] 3) fun r_35 =>
  callF Tryd.prog 18 [(.slice t114_19.a t114_19.len t114_19.cap), (.slice (some ⟨r_35, 0, none⟩) 1 1)] [.c .slice] fun (t118_19 : Sl) =>
  R_1 t118_19) (
  nw (.cells #[(.int .i64 t116_8)] 3) fun r_36 =>
  appS 5 1 1 [(.int .u8 0)] t111_10 t113_6 fun t114_20 =>
  callF Tryd.prog 18 [(.slice t114_20.a t114_20.len t114_20.cap), (.slice (some ⟨r_36, 0, none⟩) 1 1)] [.c .slice] fun (t118_20 : Sl) =>
  R_1 t118_20)) (
  nw (.cells #[(.int .i64 t116_8)] 3) fun r_37 =>
  callF Tryd.prog 18 [(.slice s_4.1.a s_4.1.len s_4.1.cap), (.slice (some ⟨r_31, 0, none⟩) 1 1)] [.c .slice] fun (t111_11 : Sl) =>
  appS 5 1 1 [(.int .u8 0)] t111_11 t113_6 fun t114_21 =>
  callF Tryd.prog 18 [(.slice t114_21.a t114_21.len t114_21.cap), (.slice (some ⟨r_37, 0, none⟩) 1 1)] [.c .slice] fun (t118_21 : Sl) =>
  R_1 t118_21))) (
  deref (some (a_45.add 1)) fun a_62 =>
  ldC (.int .i64) a_62 fun (t116_9 : Int) =>
  both (
  nw (.cells #[(.int .i64 (t108.size : Int))] 3) fun r_38 =>
  both (
  callF Tryd.prog 18 [(.slice s_4.1.a s_4.1.len s_4.1.cap), (.slice (some ⟨r_38, 0, none⟩) 1 1)] [.c .slice] fun (t111_12 : Sl) =>
  both (
  appS 5 1 1 [(.int .u8 0)] t111_12 t113_6 fun t114_22 =>
  nw (.cells #[(.int .i64 t116_9)] 3) fun r_39 =>
  callF Tryd.prog 18 [(.slice t114_22.a t114_22.len t114_22.cap), (.slice (some ⟨r_39, 0, none⟩) 1 1)] [.c .slice] fun (t118_22 : Sl) =>
  R_1 t118_22) (
  nw (.cells #[(.int .i64 t116_9)] 3) fun r_40 =>
  appS 5 1 1 [(.int .u8 0)] t111_12 t113_6 fun t114_23 =>
  callF Tryd.prog 18 [(.slice t114_23.a t114_23.len t114_23.cap), (.slice (some ⟨r_40, 0, none⟩) 1 1)] [.c .slice] fun (t118_23 : Sl) =>
  R_1 t118_23)) (
  nw (.cells #[(.int .i64 t116_9)] 3) fun r_41 =>
  callF Tryd.prog 18 [(.slice s_4.1.a s_4.1.len s_4.1.cap), (.slice (some ⟨r_38, 0, none⟩) 1 1)] [.c .slice] fun (t111_13 : Sl) =>
  appS 5 1 1 [(.int .u8 0)] t111_13 t113_6 fun t114_24 =>
  callF Tryd.prog 18 [(.slice t114_24.a t114_24.len t114_24.cap), (.slice (some ⟨r_41, 0, none⟩) 1 1)] [.c .slice] fun (t118_24 : Sl) =>
  R_1 t118_24)) (
  nw (.cells #[(.int .i64 t116_9)] 3) fun r_42 =>
  nw (.cells #[(.int .i64 (t108.size : Int))] 3) fun r_43 =>
  callF Tryd.prog 18 [(.slice s_4.1.a s_4.1.len s_4.1.cap), (.slice (some ⟨r_43, 0, none⟩) 1 1)] [.c .slice] fun (t111_14 : Sl) =>
  appS 5 1 1 [(.int .u8 0)] t111_14 t113_6 fun t114_25 =>
  callF Tryd.prog 18 [(.slice t114_25.a t114_25.len t114_25.cap), (.slice (some ⟨r_42, 0, none⟩) 1 1)] [.c .slice] fun (t118_25 : Sl) =>
  R_1 t118_25))) (
  deref (some (a_45.add 1)) fun a_63 =>
  ldC (.int .i64) a_63 fun (t116_10 : Int) =>
  both (
  nw (.cells #[(.int .i64 (t108.size : Int))] 3) fun r_44 =>
  both (
  callF Tryd.prog 18 [(.slice s_4.1.a s_4.1.len s_4.1.cap), (.slice (some ⟨r_44, 0, none⟩) 1 1)] [.c .slice] fun (t111_15 : Sl) =>
  deref (some (a_44.add 0)) fun a_64 =>
  ldC .str a_64 fun (t113_7 : ByteArray) =>
  both (
  appS 5 1 1 [(.int .u8 0)] t111_15 t113_7 fun t114_26 =>
  nw (.cells #[(.int .i64 t116_10)] 3) fun r_45 =>
  callF Tryd.prog 18 [(.slice t114_26.a t114_26.len t114_26.cap), (.slice (some ⟨r_45, 0, none⟩) 1 1)] [.c .slice] fun (t118_26 : Sl) =>
  R_1 t118_26) (
  nw (.cells #[(.int .i64 t116_10)] 3) fun r_46 =>
  appS 5 1 1 [(.int .u8 0)] t111_15 t113_7 fun t114_27 =>
  callF Tryd.prog 18 [(.slice t114_27.a t114_27.len t114_27.cap), (.slice (some ⟨r_46, 0, none⟩) 1 1)] [.c .slice] fun (t118_27 : Sl) =>
  R_1 t118_27)) (
  both (
  deref (some (a_44.add 0)) fun a_65 =>
  ldC .str a_65 fun (t113_8 : ByteArray) =>
  both (
  callF Tryd.prog 18 [(.slice s_4.1.a s_4.1.len s_4.1.cap), (.slice (some ⟨r_44, 0, none⟩) 1 1)] [.c .slice] fun (t111_16 : Sl) =>
  both (
  appS 5 1 1 [(.int .u8 0)] t111_16 t113_8 fun t114_28 =>
  nw (.cells #[(.int .i64 t116_10)] 3) fun r_47 =>
  callF Tryd.prog 18 [(.slice t114_28.a t114_28.len t114_28.cap), (.slice (some ⟨r_47, 0, none⟩) 1 1)] [.c .slice] fun (t118_28 : Sl) =>
  R_1 t118_28) (
  nw (.cells #[(.int .i64 t116_10)] 3) fun r_48 =>
  appS 5 1 1 [(.int .u8 0)] t111_16 t113_8 fun t114_29 =>
  callF Tryd.prog 18 [(.slice t114_29.a t114_29.len t114_29.cap), (.slice (some ⟨r_48, 0, none⟩) 1 1)] [.c .slice] fun (t118_29 : Sl) =>
  R_1 t118_29)) (
  nw (.cells #[(.int .i64 t116_10)] 3) fun r_49 =>
  callF Tryd.prog 18 [(.slice s_4.1.a s_4.1.len s_4.1.cap), (.slice (some ⟨r_44, 0, none⟩) 1 1)] [.c .slice] fun (t111_17 : Sl) =>
  appS 5 1 1 [(.int .u8 0)] t111_17 t113_8 fun t114_30 =>
  callF Tryd.prog 18 [(.slice t114_30.a t114_30.len t114_30.cap), (.slice (some ⟨r_49, 0, none⟩) 1 1)] [.c .slice] fun (t118_30 : Sl) =>
  R_1 t118_30)) (
  nw (.cells #[(.int .i64 t116_10)] 3) fun r_50 =>
  both (
  callF Tryd.prog 18 [(.slice s_4.1.a s_4.1.len s_4.1.cap), (.slice (some ⟨r_44, 0, none⟩) 1 1)] [.c .slice] fun (t111_18 : Sl) =>
  deref (some (a_44.add 0)) fun a_66 =>
  ldC .str a_66 fun (t113_9 : ByteArray) =>
  appS 5 1 1 [(.int .u8 0)] t111_18 t113_9 fun t114_31 =>
  callF Tryd.prog 18 [(.slice t114_31.a t114_31.len t114_31.cap), (.slice (some ⟨r_50, 0, none⟩) 1 1)] [.c .slice] fun (t118_31 : Sl) =>
  R_1 t118_31) (
  deref (some (a_44.add 0)) fun a_67 =>
  ldC .str a_67 fun (t113_10 : ByteArray) =>
  callF Tryd.prog 18 [(.slice s_4.1.a s_4.1.len s_4.1.cap), (.slice (some ⟨r_44, 0, none⟩) 1 1)] [.c .slice] fun (t111_19 : Sl) =>
  appS 5 1 1 [(.int .u8 0)] t111_19 t113_10 fun t114_32 =>
  callF Tryd.prog 18 [(.slice t114_32.a t114_32.len t114_32.cap), (.slice (some ⟨r_50, 0, none⟩) 1 1)] [.c .slice] fun (t118_32 : Sl) =>
  R_1 t118_32)))) (
  both (
  deref (some (a_44.add 0)) fun a_68 =>
  ldC .str a_68 fun (t113_11 : ByteArray) =>
  both (
  nw (.cells #[(.int .i64 (t108.size : Int))] 3) fun r_51 =>
  both (
  callF Tryd.prog 18 [(.slice s_4.1.a s_4.1.len s_4.1.cap), (.slice (some ⟨r_51, 0, none⟩) 1 1)] [.c .slice] fun (t111_20 : Sl) =>
  both (
  appS 5 1 1 [(.int .u8 0)] t111_20 t113_11 fun t114_33 =>
  nw (.cells #[(.int .i64 t116_10)] 3) fun r_52 =>
  callF Tryd.prog 18 [(.slice t114_33.a t114_33.len t114_33.cap), (.slice (some ⟨r_52, 0, none⟩) 1 1)] [.c .slice] fun (t118_33 : Sl) =>
  R_1 t118_33) (
  nw (.cells #[(.int .i64 t116_10)] 3) fun r_53 =>
  appS 5 1 1 [(.int .u8 0)] t111_20 t113_11 fun t114_34 =>
  callF Tryd.prog 18 [(.slice t114_34.a t114_34.len t114_34.cap), (.slice (some ⟨r_53, 0, none⟩) 1 1)] [.c .slice] fun (t118_34 : Sl) =>
  R_1 t118_34)) (
  nw (.cells #[(.int .i64 t116_10)] 3) fun r_54 =>
  callF Tryd.prog 18 [(.slice s_4.1.a s_4.1.len s_4.1.cap), (.slice (some ⟨r_51, 0, none⟩) 1 1)] [.c .slice] fun (t111_21 : Sl) =>
  appS 5 1 1 [(.int .u8 0)] t111_21 t113_11 fun t114_35 =>
  callF Tryd.prog 18 [(.slice t114_35.a t114_35.len t114_35.cap), (.slice (some ⟨r_54, 0, none⟩) 1 1)] [.c .slice] fun (t118_35 : Sl) =>
  R_1 t118_35)) (
  nw (.cells #[(.int .i64 t116_10)] 3) fun r_55 =>
  nw (.cells #[(.int .i64 (t108.size : Int))] 3) fun r_56 =>
  callF Tryd.prog 18 [(.slice s_4.1.a s_4.1.len s_4.1.cap), (.slice (some ⟨r_56, 0, none⟩) 1 1)] [.c .slice] fun (t111_22 : Sl) =>
  appS 5 1 1 [(.int .u8 0)] t111_22 t113_11 fun t114_36 =>
  callF Tryd.prog 18 [(.slice t114_36.a t114_36.len t114_36.cap), (.slice (some ⟨r_55, 0, none⟩) 1 1)] [.c .slice] fun (t118_36 : Sl) =>
  R_1 t118_36)) (
  nw (.cells #[(.int .i64 t116_10)] 3) fun r_57 =>
  both (
  nw (.cells #[(.int .i64 (t108.size : Int))] 3) fun r_58 =>
  both (
  callF Tryd.prog 18 [(.slice s_4.1.a s_4.1.len s_4.1.cap), (.slice (some ⟨r_58, 0, none⟩) 1 1)] [.c .slice] fun (t111_23 : Sl) =>
  deref (some (a_44.add 0)) fun a_69 =>
  ldC .str a_69 fun (t113_12 : ByteArray) =>
  appS 5 1 1 [(.int .u8 0)] t111_23 t113_12 fun t114_37 =>
  callF Tryd.prog 18 [(.slice t114_37.a t114_37.len t114_37.cap), (.slice (some ⟨r_57, 0, none⟩) 1 1)] [.c .slice] fun (t118_37 : Sl) =>
  R_1 t118_37) (
  deref (some (a_44.add 0)) fun a_70 =>
  ldC .str a_70 fun (t113_13 : ByteArray) =>
  callF Tryd.prog 18 [(.slice s_4.1.a s_4.1.len s_4.1.cap), (.slice (some ⟨r_58, 0, none⟩) 1 1)] [.c .slice] fun (t111_24 : Sl) =>
  appS 5 1 1 [(.int .u8 0)] t111_24 t113_13 fun t114_38 =>
  callF Tryd.prog 18 [(.slice t114_38.a t114_38.len t114_38.cap), (.slice (some ⟨r_57, 0, none⟩) 1 1)] [.c .slice] fun (t118_38 : Sl) =>
  R_1 t118_38)) (
  deref (some (a_44.add 0)) fun a_71 =>
  ldC .str a_71 fun (t113_14 : ByteArray) =>
  nw (.cells #[(.int .i64 (t108.size : Int))] 3) fun r_59 =>
  callF Tryd.prog 18 [(.slice s_4.1.a s_4.1.len s_4.1.cap), (.slice (some ⟨r_59, 0, none⟩) 1 1)] [.c .slice] fun (t111_25 : Sl) =>
  appS 5 1 1 [(.int .u8 0)] t111_25 t113_14 fun t114_39 =>
  callF Tryd.prog 18 [(.slice t114_39.a t114_39.len t114_39.cap), (.slice (some ⟨r_57, 0, none⟩) 1 1)] [.c .slice] fun (t118_39 : Sl) =>
  R_1 t118_39)))))) fun s_5 =>
  X_3 (s_5, (IntKind.wrap .i64 (s_4.2 + 1)))) (
  callF Tryd.prog 20 [(.slice s_4.1.a s_4.1.len s_4.1.cap)] [.c .slice] fun (t121 : Sl) =>
  Q (t121, .nilIface))) (t98, 0))) (t59, 0))) (t36, 0))

theorem F6_calls (p0_0 : Sl) (p0_1 : Sl) (Q : Sl × Value → Pr) (w : World) (h : F6 p0_0 p0_1 Q w) : Calls Tryd.prog 6 #[(.agg #[(.slice p0_0.a p0_0.len p0_0.cap), (.slice p0_1.a p0_1.len p0_1.cap)])] w (RetT [.c .slice, .c .any] Q) :=
  callsIn_of_compile (an := an6) (args := [(.agg #[(.slice p0_0.a p0_0.len p0_0.cap), (.slice p0_1.a p0_1.len p0_1.cap)])]) (shs := [.c .slice, .c .any]) Tryd.func6 (by
    have e : compileFn Tryd.prog Tryd.f6 an6 [(.agg #[(.slice p0_0.a p0_0.len p0_0.cap), (.slice p0_1.a p0_1.len p0_1.cap)])] [.c .slice, .c .any] Q = F6 p0_0 p0_1 Q := by kernel_rfl
    rw [e]; exact h)


end Go.Proofs

/-! Pack: steps. -/
set_option maxRecDepth 20000
namespace Go.Proofs
open Go.Eng

theorem appS_own {w : World} {s : Sl} {E n b n0 m : Nat} {z : List Value} {vs new : List Value} {k : Sl → Pr} (h : OwnS w n0 n s vs) (hn0 : n0 ≤ w.heap.size) (hnl : new.length = m * n)
    (hna : ∀ v ∈ new, NotAgg v) (hz : z.length = n) (hb : b ≠ 0) (hbd : (2 * (s.len + m) + 192) * b ≤ 2 ^ 48)
    (hk : ∀ r w', OwnS w' n0 n r (vs ++ new) → Mod s.blk w w' → (∀ b, r.blk b → s.blk b ∨ w.heap.size ≤ b) → k r w') :
    (s.len + m ≤ s.cap → stO s.a (s.len * n) new (k ⟨s.a, s.len + m, s.cap⟩) w) ∧
    (s.cap < s.len + m → ∃ old : List Value, (s.a.isSome = true → old.length = s.len * n) ∧ readsO w s.a old ∧ (b ≠ 0) ∧
      (Builtin.nextslicecap (s.len + m) s.cap * b ≤ 2 ^ 48) ∧ (s.len + m < 2 ^ 63) ∧
      ∀ cap, s.len + m ≤ cap → cap < 2 ^ 63 →
        k ⟨some ⟨w.heap.size, 0, none⟩, s.len + m, cap⟩ (w.drew.alloc (.cells (old ++ new ++ zc z (cap - (s.len + m))).toArray E))) := by
  constructor
  · intro hroom
    rcases h.row with ⟨h1, h2, h3⟩ | ⟨bb, off, spare, h1, h2, h3, h4, h5, h6⟩
    · rw [h1]
      have hx00 : m = 0 := by omega
      have hnew : new = [] := by
        apply List.eq_nil_of_length_eq_zero
        rw [hnl, hx00]; simp
      refine hk _ _ ?_ (Mod.refl _ _) ?_
      · rw [hnew, List.append_nil]
        exact ⟨by simp [h.len, hx00], by simp; omega, .inl ⟨by simp, by simp; omega, h3⟩⟩
      · rintro b ⟨ad, hh, _⟩; cases hh
    · rw [h1]
      have hlen := h.len
      have hspl : (vs ++ spare).length = vs.length + spare.length := List.length_append
      have hle : s.len * n + new.length ≤ (vs ++ spare).length := by
        rw [hnl, h6, ← Nat.add_mul]
        exact Nat.mul_le_mul_right n hroom
      show stL _ 0 new _ w
      rw [stL_shift, Nat.add_zero, ← hlen]
      refine stL_of rfl h5 (by rw [hlen]; exact hle) hna h4 ?_
      intro w' g1 g2 g3 g4
      have e1 : (vs ++ spare).take vs.length = vs := by simp
      have e2 : (vs ++ spare).drop (vs.length + new.length) = spare.drop new.length := by
        rw [List.drop_append, List.drop_eq_nil_of_le (by omega), List.nil_append]
        congr 1; omega
      rw [e1, e2] at g1
      refine hk _ _ ⟨?_, hroom, .inr ⟨bb, off, spare.drop new.length, rfl, h2, by rw [g3]; exact h3, g4 _ h4, g1, ?_⟩⟩ ?_ ?_
      · rw [List.length_append, hlen, hnl, Nat.add_mul]
      · simp only [List.length_append, List.length_drop] at *
        omega
      · exact g2.mono fun c _ hc => ⟨_, h1, hc.symm⟩
      · rintro c ⟨ad, hh, hc⟩
        simp only [Option.some.injEq] at hh
        exact .inl ⟨_, h1, by rw [← hc, ← hh]⟩
  · intro hgrow
    have hold := h.reads
    refine ⟨vs, fun _ => h.len, hold, hb, ?_, ?_, ?_⟩
    · exact Nat.le_trans (Nat.mul_le_mul_right b (nextslicecap_le hgrow)) (Nat.le_trans (Nat.mul_le_mul_right b (by omega)) hbd)
    · have : (2 * (s.len + m) + 192) * 1 ≤ (2 * (s.len + m) + 192) * b := Nat.mul_le_mul_left _ (by omega)
      omega
    · intro cap hc1 hc2
      have hl : (vs ++ new ++ zc z (cap - (s.len + m))).length = cap * n := by
        simp only [List.length_append, zc_length, h.len, hnl, hz]
        rw [← Nat.add_mul, ← Nat.add_mul]
        congr 1; omega
      refine hk _ _ ⟨?_, hc1, .inr ⟨w.heap.size, 0, zc z (cap - (s.len + m)), rfl, hn0, ?_, ?_, ?_, hl⟩⟩ ((Mod.refl _ w).drew.alloc _) ?_
      · simp only [List.length_append, h.len, hnl, Nat.add_mul]
      · simp
      · intro o _ _
        exact World.frozen?_alloc_new w.drew _ E o
      · intro j v hj
        rw [add_mk, Nat.zero_add]
        have := World.cell?_alloc_new w.drew (vs ++ new ++ zc z (cap - (s.len + m))).toArray E j
        rw [World.size_drew] at this
        rw [this]
        simpa using hj
      · rintro c ⟨ad, hh, hc⟩
        simp only [Option.some.injEq] at hh
        refine .inr ?_
        rw [← hc, ← hh]
        exact Nat.le_refl _

theorem appS_of {F0 : Nat → Prop} {w0 w : World} {L : List HA} {s : Sl} {pre l : List UInt8} {k : Sl → Pr} (h : St F0 w0 w (SlA 1 s (pre.map ub) :: L)) (hl : pre.length ≤ 100000000) (hll : l.length ≤ 100000000)
    (hk : ∀ r w', St F0 w0 w' (SlA 1 r ((pre ++ l).map ub) :: L) → k r w') : appS 5 1 1 [.int .u8 0] s (bytesOf l) k w := by
  have hsl := slA_len1 h.sl
  rw [List.length_map] at hsl
  have hsz : (bytesOf l).size = l.length := rfl
  have e : ubL (bytesOf l) = l.map ub := by simp [ubL, bytesOf]; intro a _; rfl
  unfold appS
  rw [e, hsz]
  refine appS_own h.sl (Nat.zero_le _) (by simp) (by intro v hv; obtain ⟨_, _, rfl⟩ := List.mem_map.1 hv; trivial) rfl (by decide) (by omega) fun r w' h1 h2 h3 => hk r w' ?_
  rw [List.map_append]
  exact h.slm h2 h1 h3

/-! ### boxes that are left behind -/

theorem St.boxm {F0 : Nat → Prop} {w0 w : World} {T : List HA} {b : Nat} {vs : List Value} (h : St F0 w0 w T) (hm : BoxA b vs ∈ T) : Box w b vs := by
  obtain ⟨_, F, hh, _⟩ := h
  obtain ⟨G, hG, _⟩ := Has.mem hh hm
  exact hG.1

/-- a new box, behind the first ones -/
theorem St.nwT1 {F0 : Nat → Prop} {w0 w : World} {A : HA} {T : List HA} {cs : Array Value} {E : TypeId} {f : Nat → Pr} (h : St F0 w0 w (A :: T)) (hk : ∀ r w', St F0 w0 w' (A :: BoxA r cs.toList :: T) → f r w') : nw (.cells cs E) f w :=
  St.nw h fun r w' s _ _ => hk r w' (s.bring 1)
theorem St.nwT2 {F0 : Nat → Prop} {w0 w : World} {A B : HA} {T : List HA} {cs : Array Value} {E : TypeId} {f : Nat → Pr} (h : St F0 w0 w (A :: B :: T)) (hk : ∀ r w', St F0 w0 w' (A :: B :: BoxA r cs.toList :: T) → f r w') : nw (.cells cs E) f w :=
  St.nw h fun r w' s _ _ => hk r w' ((s.bring 2).bring 2 |>.bring 1 |> fun s => (s.sel [1, 0, 2] 3))

/-- numbers behind bytes, from a box -/
theorem nums_25 {w0 w : World} {T : List HA} {s : Sl} {pre : List UInt8} {r m : Nat} {l : List Int} {k : Sl → Pr} (h : St noF w0 w (SlA 1 s (pre.map ub) :: T)) (hm : BoxA r (l.map iv) ∈ T) (hml : m = l.length)
    (h0 : ∀ n ∈ l, 0 ≤ n ∧ n < 1000000) (hl : pre.length ≤ 100000000) (hll : l.length ≤ 1000)
    (hk : ∀ r w', St noF w0 w' (SlA 1 r ((pre ++ uvsB l).map ub) :: T) → k r w') : callF Tryd.prog 18 [.slice s.a s.len s.cap, .slice (some ⟨r, 0, none⟩) m m] [.c .slice] k w := by
  subst hml
  obtain ⟨F, H, _, h1, h2, h3, h4, h5⟩ := h.call1
  obtain ⟨G, ⟨hG1, hG2⟩, hG3⟩ := Has.mem h2 hm
  refine callF_of (Y25 s ⟨some ⟨r, 0, none⟩, l.length, l.length⟩ pre l w F h1 ⟨rfl, readsAt_row.2 hG1.row⟩ ?_ (fun n hn => ⟨(h0 n hn).1, by have := (h0 n hn).2; omega⟩) hl hll) fun r' w' s' => hk r' w' (h5 w' _ s')
  rintro b ⟨ad, ha, rfl⟩ hF
  cases ha
  exact h3 _ hF (hG3 _ ((hG2 _).2 rfl))

/-- the number of data that was met -/
theorem num_26 {w0 w : World} {A : HA} {T : List HA} {db : Nat} {ys : List NS} {g : GS} {y : NS} {k : Int → Pr} (h : St noF w0 w (A :: DLA db ys :: T)) (hg : RG w0 noF g) (hy : y ∈ g.xs) (hin : y.d ∈ ys.map (·.d)) (hl : ys.length ≤ 1000000)
    (hk : ∀ w', St noF w0 w' (A :: DLA db ys :: T) → k (dnum (ys.map (·.d)) y.d) w') : callF Tryd.prog 19 [.pointer (some ⟨db, 0, none⟩), .slice y.ds.a y.ds.len y.ds.cap] [.c (.int .i64)] k w := by
  obtain ⟨F, H, _, h1, h2, h3, h4, h5⟩ := (h.bring 1).call1
  have hgF : RG w F g := hg.go h h4
  refine callF_of (Y26 db ys y w F h1 (hgF.bd y hy) (hgF.no4 y hy) hl) ?_
  rintro _ w' ⟨rfl, s'⟩
  have e : ddS ys y = ys := by unfold ddS; rw [if_pos hin]
  rw [e] at s' ⊢
  exact hk w' ((h5 w' _ s').bring 1)
end Go.Proofs

/-! Pack. -/
set_option maxRecDepth 20000
namespace Go.Proofs
open Go.Eng

theorem num1_25 {w0 w : World} {T : List HA} {s : Sl} {pre : List UInt8} {r : Nat} {n : Int} {k : Sl → Pr} (h : St noF w0 w (SlA 1 s (pre.map ub) :: T)) (hm : BoxA r [.int .i64 n] ∈ T)
    (h0 : 0 ≤ n) (hn : n < 1000000) (hl : pre.length ≤ 100000000)
    (hk : ∀ r w', St noF w0 w' (SlA 1 r ((pre ++ uvB n.toNat).map ub) :: T) → k r w') : callF Tryd.prog 18 [.slice s.a s.len s.cap, .slice (some ⟨r, 0, none⟩) 1 1] [.c .slice] k w := by
  refine nums_25 (l := [n]) h hm rfl (fun m hm => ?_) hl (by simp) fun r' w' s' => hk r' w' ?_
  · rw [List.mem_singleton] at hm; omega
  · simpa [uvsB] using s'

theorem DLA.rd {F0 : Nat → Prop} {w0 w : World} {L : List HA} {db : Nat} {ys : List NS} (h : St F0 w0 w (DLA db ys :: L)) :
    ∃ t m, St F0 w0 w (BoxA db [slV t, .map (some m)] :: SlA 1 t (ys.map fun y => slV y.ds) :: MapA strKT m (kvD (ys.map (·.d))) :: L) := by
  obtain ⟨⟨t, m⟩, s⟩ := h.ex
  exact ⟨t, m, s⟩

def PostPack (G : GG) (w : World) (r : Sl × Value) (w' : World) : Prop :=
  (okG G = true ∧ r.2 = .nilIface ∧ St noF w w' [SlA 1 r.1 ((packB (canM G)).map ub)]) ∨
  (okG G = false ∧ r.1 = ⟨none, 0, 0⟩ ∧ ∃ b : Nat, r.2 = .iface 83 (.pointer (some ⟨b, 0, none⟩)) ∧ St noF w w' [BoxA b [.int .i64 0, .iface 33 (.int .i64 180)]])

theorem Y10 (g : GS) (w : World) (hg : RG w noF g) : Calls Tryd.prog 6 #[g.v] w (RetT [.c .slice, .c .any] fun r w' => PostPack g.m w r w') := by
  refine F6_calls g.gn g.gr _ _ ?_
  unfold F6
  simp only [deref_some']
  refine St.nw (St.init0 w) fun r w1 s1 _ _ => ?_
  refine Box.ldA (l := [.slice, .slice]) (p := (g.gn, g.gr)) s1.box ?_
  refine callF_of (Y22 g _ (hg.grow s1.gro)) ?_
  rintro ⟨⟨cn, cr⟩, e⟩ w3 (⟨hok, rfl, c, rfl, rfl, hcm, k3⟩ | ⟨hbad, rfl, hr, g3⟩)
  rotate_left
  · have s3 := s1.grow g3
    simp only [Prod.mk.injEq] at hr
    obtain ⟨rfl, rfl⟩ := hr
    refine St.nw s3 fun r2 w4 s4 _ _ => s4.st (i := 0) (by simp) trivial fun w5 s5 => s5.st (i := 1) (by simp) trivial fun w6 s6 => ?_
    refine br_of (fun _ => ?_) fun h => by simp at h
    refine callF_of (Y23 0 (.iface 33 (.int .i64 180)) _ trivial) ?_
    rintro _ w7 ⟨b, rfl, k7⟩
    exact .inr ⟨hbad, rfl, b, rfl, (s6.call0 k7).sel [0] 3⟩
  have s3 := s1.call0 k3
  dsimp only at hcm s3 ⊢
  have ht : c.m.tiny := by rw [hcm]; exact can_tiny hok
  have hsm : c.small := GS.small_iff.2 (by rw [hcm]; exact can_small hok)
  refine St.nw s3 fun r1 w4 s4 _ _ => s4.st (i := 0) (by simp) trivial fun w5 s5 => s5.st (i := 1) (by simp) trivial fun w6 s6 => ?_
  have s6 : St noF w w6 [BoxA r1 [slV c.gn, slV c.gr], GAx c, BoxA r [slV g.gn, slV g.gr]] := s6
  refine br_of (fun h => by simp at h) fun _ => ?_
  -- from here on all that was there is only read
  have hgc := St.rg (s6.bring 1) hsm
  have hb1 := s6.box
  have fin : ∀ (b : Sl) W, St noF w6 W [SlA 1 b ((packB c.m).map ub)] → PostPack g.m w (b, .nilIface) W := by
    intro b W s
    rw [hcm] at s
    exact .inl ⟨hok, rfl, (s6.call0 s).sel [0] 4⟩
  clear s1 s3 s4 s5 s6 hg k3 hcm
  have hnl := hgc.nl
  have hrl := hgc.rl
  have hml : c.m.n.length = c.xs.length := by simp [GS.m]
  have hn2 := ht.nl
  rw [hml] at hn2
  have hr2 : c.rs.length ≤ 512 := ht.rl
  have hmm : ∀ x ∈ c.xs, x.m ∈ c.m.n := fun x hx => List.mem_map.2 ⟨x, hx, rfl⟩
  have hdsl := dataL_len c.m
  rw [hml] at hdsl
  have hddm := ddN_map c
  have hddl : (ddN c.xs).length = (dataL c.m).length := by rw [← hddm]; simp
  have hdd : ∀ y ∈ ddN c.xs, y ∈ c.xs := fun y hy => (ddN_sub _ _ y hy).elim (fun h => by cases h) id
  refine Box.ldA (l := [.slice, .slice]) (p := (c.gn, c.gr)) hb1 ?_
  refine callF_of (Y24 c _ hgc) ?_
  rintro _ w7 ⟨db, rfl, s7⟩
  simp only [deref_some']
  refine St.nwMark s7 fun rm w8 s8 => ?_
  have s8 : St noF w6 w8 [SlA 1 ⟨some ⟨rm, 0, none⟩, 8, 8⟩ (magicL.map ub), DLA db (ddN c.xs)] := s8
  obtain ⟨t, m, s9⟩ := DLA.rd (s8.bring 1)
  have s9 : St noF w6 w8 [SlA 1 ⟨some ⟨rm, 0, none⟩, 8, 8⟩ (magicL.map ub), BoxA db [slV t, .map (some m)], SlA 1 t ((ddN c.xs).map fun y => slV y.ds), MapA strKT m (kvD ((ddN c.xs).map (·.d)))] := s9.bring 3
  have htl := slA_len1 (s9.bring 2).sl
  rw [List.length_map] at htl
  refine (s9.bring 1).ld (i := 0) (s := .slice) (p := t) rfl ?_
  refine St.nwT1 s9 fun r3 w10 s10 => ?_
  refine num1_25 (s := ⟨some ⟨rm, 0, none⟩, 8, 8⟩) (n := t.len) s10 (.head _) (by omega) (by omega) (by decide) fun b w11 s11 => ?_
  rw [Int.toNat_natCast, htl, hddl] at s11
  refine (s11.bring 2).ld (i := 0) (s := .slice) (p := t) rfl ?_
  -- the data
  have hA : ∀ i, (magicL ++ uvB (dataL c.m).length ++ ((dataL c.m).take i).flatMap datB).length ≤ 9000000 := by
    intro i
    have h1 := flatMap_take (f := datB) (K := 1018) (l := dataL c.m) (fun x hx => by
      obtain ⟨n, hn, rfl⟩ := dataL_of c.m x hx
      exact datB_len (ht.dl n hn)) i
    have h2 := uvB_len (dataL c.m).length
    rw [List.length_append, List.length_append]
    have h3 : magicL.length = 8 := rfl
    omega
  refine loop_of (fun z W => ∃ (i : Nat) (b : Sl), z = (b, (i : Int)) ∧ i ≤ (dataL c.m).length ∧
      St noF w6 W [SlA 1 b ((magicL ++ uvB (dataL c.m).length ++ ((dataL c.m).take i).flatMap datB).map ub), BoxA db [slV t, .map (some m)], SlA 1 t ((ddN c.xs).map fun y => slV y.ds), MapA strKT m (kvD ((ddN c.xs).map (·.d)))])
    (fun z _ => (dataL c.m).length - z.2.toNat) ⟨0, b, rfl, by omega, by rw [List.take_zero, List.flatMap_nil, List.append_nil]; exact s11.sel [0, 2, 3, 4] 5⟩ ?_
  rintro _ W ⟨i, b, rfl, hi, sW⟩
  dsimp only
  refine br_of (fun hlt => ?_) fun hge => ?_
  · simp only [decide_eq_true_eq] at hlt
    have hil : i < (ddN c.xs).length := by omega
    refine ⟨⟨by omega, by omega⟩, ?_⟩
    rw [Int.toNat_natCast]
    refine MS.at (g := fun y : NS => slV y.ds) (c := .slice) (p := (ddN c.xs)[i].ds) (x := (ddN c.xs)[i]) (OwnS.ms (sW.bring 2).sl) (by simp [hil]) rfl ?_
    have hym := hdd _ (List.getElem_mem hil)
    have hyd : (dataL c.m)[i]'(by omega) = (ddN c.xs)[i].d := by simp only [← hddm, List.getElem_map]
    have etk := take_flat (f := datB) (l := dataL c.m) (i := i) (by omega)
    rw [hyd] at etk
    generalize (ddN c.xs)[i] = y at hym etk ⊢
    have h1 := hA i
    have h2 : y.d.length ≤ 1008 := ht.dl _ (hmm y hym)
    have hyl := (hgc.bd y hym).len
    refine St.nwT1 sW fun r4 w12 s12 => ?_
    refine num1_25 (n := y.ds.len) s12 (.head _) (by omega) (by omega) (by omega) fun b2 w13 s13 => ?_
    rw [Int.toNat_natCast, hyl] at s13
    have h3 := uvB_len y.d.length
    refine app_by s13 ((hgc.bd y hym).grow s13.gro) (by rw [List.length_append]; omega) (by omega) fun b3 w14 s14 => ?_
    rw [succ_i64 (by omega)]
    refine ⟨⟨i + 1, b3, rfl, by omega, ?_⟩, by omega⟩
    rw [etk]
    unfold datB at s14 ⊢
    simp only [List.append_assoc] at s14 ⊢
    exact s14.sel [0, 2, 3, 4] 5
  simp only [decide_eq_false_iff_not] at hge
  rw [List.take_of_length_le (by omega)] at sW
  have hA := hA (dataL c.m).length
  rw [List.take_length] at hA
  generalize hpre : magicL ++ uvB (dataL c.m).length ++ (dataL c.m).flatMap datB = pre at sW hA
  have sW : St noF w6 W [SlA 1 b (pre.map ub), DLA db (ddN c.xs)] := (show St noF w6 W (DLA db (ddN c.xs) :: _) from St.mkex (t, m) (sW.bring 3 |>.bring 3 |>.bring 3)).bring 1
  refine (hb1.grow sW.gro).ld (i := 0) (s := .slice) (p := c.gn) rfl ?_
  refine St.nwT2 sW fun r5 w12 s12 => ?_
  refine num1_25 (n := c.gn.len) s12 (.tail _ (.head _)) (by omega) (by omega) (by omega) fun b w13 s13 => ?_
  rw [Int.toNat_natCast, hnl, ← hml] at s13
  refine (hb1.grow s13.gro).ld (i := 0) (s := .slice) (p := c.gn) rfl ?_
  -- the nodes
  have hB : ∀ i, (pre ++ uvB c.m.n.length ++ (c.m.n.take i).flatMap (nodB (dataL c.m))).length ≤ 20000000 := by
    intro i
    have h1 := flatMap_take (f := nodB (dataL c.m)) (K := 1290) (l := c.m.n) (fun x hx => nodB_len (ht.pl x hx)) i
    have h2 := uvB_len c.m.n.length
    rw [List.length_append, List.length_append]
    omega
  refine loop_of (fun z W => ∃ (i : Nat) (b : Sl), z = (b, (i : Int)) ∧ i ≤ c.xs.length ∧
      St noF w6 W [SlA 1 b ((pre ++ uvB c.m.n.length ++ (c.m.n.take i).flatMap (nodB (dataL c.m))).map ub), DLA db (ddN c.xs)])
    (fun z _ => c.xs.length - z.2.toNat) ⟨0, b, rfl, by omega, by rw [List.take_zero, List.flatMap_nil, List.append_nil]; exact s13.sel [0, 1] 3⟩ ?_
  rintro _ W ⟨i, b, rfl, hi, sW⟩
  dsimp only
  refine br_of (fun hlt => ?_) fun hge => ?_
  · simp only [decide_eq_true_eq] at hlt
    have hil : i < c.xs.length := by omega
    refine ⟨⟨by omega, by omega⟩, ?_⟩
    rw [Int.toNat_natCast]
    have hxi : c.xs[i]? = some c.xs[i] := by simp [hil]
    have hxm : c.xs[i] ∈ c.xs := List.getElem_mem hil
    have etk := take_flat (f := nodB (dataL c.m)) (l := c.m.n) (i := i) (by omega)
    have egi : c.m.n[i]'(by omega) = c.xs[i].m := by simp [GS.m]
    rw [egi] at etk
    refine (hgc.grow sW.gro).node hxi ?_
    generalize c.xs[i] = x at hxi hxm etk egi ⊢
    have hxn := hmm x hxm
    have hk3 : 0 ≤ x.k ∧ x.k ≤ 3 := ht.kk _ hxn
    have hpl : x.p.length ≤ 126 := ht.pl _ hxn
    have hpr := ht.pr _ hxn
    rw [hml] at hpr
    have hpr : ∀ p ∈ x.p, -1 ≤ p ∧ p < c.xs.length := hpr
    have hdin : x.d ∈ dataL c.m := dataL_in hxn
    have hdn := dnum_lt hdin
    have hpsl := (hgc.ip x hxm).len
    refine St.nwT2 sW fun r6 w14 s14 => (s14.bring 2).st (i := 0) (by simp) trivial fun w15 s15 => s15.st (i := 1) (by simp) trivial fun w16 s16 => s16.st (i := 2) (by simp) trivial fun w17 s17 => ?_
    have hBi := hB i
    have etk2 : pre ++ uvB c.m.n.length ++ (c.m.n.take (i + 1)).flatMap (nodB (dataL c.m)) = (pre ++ uvB c.m.n.length ++ (c.m.n.take i).flatMap (nodB (dataL c.m))) ++ nodB (dataL c.m) x.m := by rw [etk, List.append_assoc, List.append_assoc, List.append_assoc]
    generalize pre ++ uvB c.m.n.length ++ (c.m.n.take i).flatMap (nodB (dataL c.m)) = pre2 at s17 hBi etk2
    have s17 : St noF w6 w17 [SlA 1 b (pre2.map ub), DLA db (ddN c.xs), BoxA r6 (ncells x)] := s17.sel [1, 2, 0] 3
    obtain ⟨RR, hRR⟩ : ∃ RR : Sl → Pr, RR = fun s' W' => ∃ T, St noF w6 W' (SlA 1 s' ((pre2 ++ uvsB [x.k, (dnum (dataL c.m) x.d : Int), (x.p.length : Int)]).map ub) :: DLA db (ddN c.xs) :: BoxA r6 (ncells x) :: T) := ⟨_, rfl⟩
    refine jn_of RR ?_ ?_
    · rw [drw_def]
      have st := s17.drew
      refine (st.bring 2).ld (i := 2) (s := .slice) (p := x.ds) rfl ?_
      obtain ⟨dn, hdn'⟩ : ∃ dn, dn = dnum (dataL c.m) x.d := ⟨_, rfl⟩
      rw [← hdn'] at hdn hRR
      have ldk : ∀ {W} (k : Int → Pr), St noF w6 W [SlA 1 b (pre2.map ub), DLA db (ddN c.xs), BoxA r6 (ncells x)] → k x.k W → ldC (.int .i64) (Addr.add ⟨r6, 0, none⟩ 0) k W :=
        fun k s hk => (s.bring 2).ld (i := 0) (s := .int .i64) (p := x.k) rfl hk
      have ldp : ∀ {W} (k : Sl → Pr), St noF w6 W [SlA 1 b (pre2.map ub), DLA db (ddN c.xs), BoxA r6 (ncells x)] → k x.ps W → ldC .slice (Addr.add ⟨r6, 0, none⟩ 1) k W :=
        fun k s hk => (s.bring 2).ld (i := 1) (s := .slice) (p := x.ps) rfl hk
      have c26 : ∀ {W} (k : Int → Pr), St noF w6 W [SlA 1 b (pre2.map ub), DLA db (ddN c.xs), BoxA r6 (ncells x)] →
          (∀ W', St noF w6 W' [SlA 1 b (pre2.map ub), DLA db (ddN c.xs), BoxA r6 (ncells x)] → k (dn : Int) W') →
          callF Tryd.prog 19 [.pointer (some ⟨db, 0, none⟩), .slice x.ds.a x.ds.len x.ds.cap] [.c (.int .i64)] k W := fun k s hk => by
            refine num_26 s hgc hxm (by rw [hddm]; exact hdin) (by omega) fun W' s' => ?_
            rw [hddm, ← hdn']
            exact hk W' s'
      have lst : ∀ {W}, St noF w6 W [SlA 1 b (pre2.map ub), DLA db (ddN c.xs), BoxA r6 (ncells x)] →
          (nw (.cells #[.int .i64 x.k, .int .i64 (dn : Int), .int .i64 (x.ps.len : Int)] 3) fun r7 => callF Tryd.prog 18 [.slice b.a b.len b.cap, .slice (some ⟨r7, 0, none⟩) 3 3] [.c .slice] RR) W := fun s => by
            refine St.nw s fun r7 w18 s18 _ _ => ?_
            refine nums_25 (l := [x.k, (dn : Int), (x.ps.len : Int)]) (s18.sel [1, 2, 3, 0] 4) (.tail _ (.tail _ (.head _))) rfl ?_ (by omega) (by simp) fun b2 w19 s19 => ?_
            · intro n hn
              simp only [List.mem_cons, List.not_mem_nil, or_false] at hn
              omega
            · rw [hRR, ← hpsl]
              exact ⟨_, s19⟩
      repeat' first
        | with_reducible refine both_of ?_ ?_
        | with_reducible exact lst st
        | with_reducible refine c26 _ st fun _ st => ?_
        | with_reducible refine ldk _ st ?_
        | with_reducible refine ldp _ st ?_
    intro b2 w18 s18
    rw [hRR] at s18
    obtain ⟨T, s18⟩ := s18
    have s18 : St noF w6 w18 [SlA 1 b2 ((pre2 ++ uvsB [x.k, (dnum (dataL c.m) x.d : Int), (x.p.length : Int)]).map ub), DLA db (ddN c.xs), BoxA r6 (ncells x)] := St.dropR (l := [_, _, _]) s18
    refine (s18.bring 2).ld (i := 1) (s := .slice) (p := x.ps) rfl ?_
    refine loop_of (fun z W => ∃ (j : Nat) (b : Sl), z = (b, (j : Int)) ∧ j ≤ x.p.length ∧
        St noF w6 W [SlA 1 b ((pre2 ++ uvsB [x.k, (dnum (dataL c.m) x.d : Int), (x.p.length : Int)] ++ (x.p.take j).flatMap fun p => uvB (p + 1).toNat).map ub), DLA db (ddN c.xs)])
      (fun z _ => x.p.length - z.2.toNat) ⟨0, b2, rfl, by omega, by rw [List.take_zero, List.flatMap_nil, List.append_nil]; exact s18.sel [0, 1] 3⟩ ?_
    rintro _ W3 ⟨j, b3, rfl, hj, sW3⟩
    dsimp only
    refine br_of (fun hlt2 => ?_) fun hge2 => ?_
    · simp only [decide_eq_true_eq] at hlt2
      have hjl : j < x.p.length := by omega
      refine ⟨⟨by omega, by omega⟩, ?_⟩
      rw [Int.toNat_natCast]
      refine IS.at ((hgc.ip x hxm).grow sW3.gro) hjl ?_
      have etp := take_flat (f := fun p : Int => uvB (p + 1).toNat) (l := x.p) hjl
      have hpb := hpr _ (List.getElem_mem hjl)
      generalize x.p[j] = p at etp hpb ⊢
      rw [wrap_i64 ⟨by omega, by omega⟩]
      have hl3 : (pre2 ++ uvsB [x.k, (dnum (dataL c.m) x.d : Int), (x.p.length : Int)] ++ (x.p.take j).flatMap fun p => uvB (p + 1).toNat).length ≤ 21000000 := by
        have h1 := uvsB_len [x.k, (dnum (dataL c.m) x.d : Int), (x.p.length : Int)]
        have h2 := flatMap_take (f := fun p : Int => uvB (p + 1).toNat) (K := 10) (l := x.p) (fun p _ => uvB_len _) j
        simp only [List.length_cons, List.length_nil] at h1
        rw [List.length_append, List.length_append]
        omega
      refine St.nwT2 sW3 fun r12 w20 s20 => ?_
      refine num1_25 s20 (.tail _ (.head _)) (by omega) (by omega) (by omega) fun b4 W4 s4 => ?_
      rw [succ_i64 (by omega)]
      refine ⟨⟨j + 1, b4, rfl, by omega, ?_⟩, by omega⟩
      rw [etp, ← List.append_assoc]
      exact s4.sel [0, 1] 3
    · simp only [decide_eq_false_iff_not] at hge2
      rw [List.take_of_length_le (by omega)] at sW3
      rw [succ_i64 (by omega)]
      refine ⟨⟨i + 1, b3, rfl, by omega, ?_⟩, by omega⟩
      rw [etk2]
      unfold nodB
      rw [← List.append_assoc]
      exact sW3
  simp only [decide_eq_false_iff_not] at hge
  rw [List.take_of_length_le (by omega)] at sW
  have hB := hB c.m.n.length
  rw [List.take_length] at hB
  generalize hpre2 : pre ++ uvB c.m.n.length ++ c.m.n.flatMap (nodB (dataL c.m)) = pre2 at sW hB
  refine (hb1.grow sW.gro).ld (i := 1) (s := .slice) (p := c.gr) rfl ?_
  refine St.nwT2 sW fun r13 w12 s12 => ?_
  refine num1_25 (n := c.gr.len) s12 (.tail _ (.head _)) (by omega) (by omega) (by omega) fun b w13 s13 => ?_
  rw [Int.toNat_natCast, hrl] at s13
  refine (hb1.grow s13.gro).ld (i := 1) (s := .slice) (p := c.gr) rfl ?_
  -- the roots
  have hC : ∀ i, (pre2 ++ uvB c.rs.length ++ (c.rs.take i).flatMap rootB).length ≤ 20100000 := by
    intro i
    have h1 := flatMap_take (f := rootB) (K := 36) (l := c.rs) (fun x hx => rootB_len (ht.sl x hx)) i
    have h2 := uvB_len c.rs.length
    rw [List.length_append, List.length_append]
    omega
  refine loop_of (fun z W => ∃ (i : Nat) (b : Sl), z = (b, (i : Int)) ∧ i ≤ c.rs.length ∧
      St noF w6 W [SlA 1 b ((pre2 ++ uvB c.rs.length ++ (c.rs.take i).flatMap rootB).map ub)])
    (fun z _ => c.rs.length - z.2.toNat) ⟨0, b, rfl, by omega, by rw [List.take_zero, List.flatMap_nil, List.append_nil]; exact s13.sel [0] 3⟩ ?_
  rintro _ W ⟨j, b, rfl, hj, sW⟩
  dsimp only
  refine br_of (fun hlt => ?_) fun hge => ?_
  · simp only [decide_eq_true_eq] at hlt
    have hjl : j < c.rs.length := by omega
    have hri : c.rs[j]? = some c.rs[j] := by simp [hjl]
    have hmem : c.rs[j] ∈ c.m.r := List.getElem_mem hjl
    have etk := take_flat (f := rootB) (l := c.rs) hjl
    generalize c.rs[j] = rr at hri hmem etk
    have hrb := ht.rr rr hmem
    rw [hml] at hrb
    have hsl := ht.sl rr hmem
    have hCj := hC j
    have etk2 : pre2 ++ uvB c.rs.length ++ (c.rs.take (j + 1)).flatMap rootB = (pre2 ++ uvB c.rs.length ++ (c.rs.take j).flatMap rootB) ++ rootB rr := by rw [etk, List.append_assoc, List.append_assoc, List.append_assoc]
    generalize pre2 ++ uvB c.rs.length ++ (c.rs.take j).flatMap rootB = pre3 at sW hCj etk2
    obtain ⟨RR, hRR⟩ : ∃ RR : Sl → Pr, RR = fun s' W' => ∃ T, St noF w6 W' (SlA 1 s' ((pre3 ++ rootB rr).map ub) :: T) := ⟨_, rfl⟩
    refine jn_of RR ?_ ?_
    · refine ⟨⟨by omega, by omega⟩, ?_⟩
      rw [Int.toNat_natCast]
      refine (hgc.grow sW.gro).root hri ?_
      refine St.nwT1 sW fun r14 w14 s14 => (s14.bring 1).st (i := 0) (by simp) trivial fun w15 s15 => s15.st (i := 1) (by simp) trivial fun w16 s16 => ?_
      rw [drw_def]
      have st := s16.drew.bring 1
      have st : St noF w6 w16.drew [SlA 1 b (pre3.map ub), BoxA r14 (rcellsM rr)] := st
      refine (st.bring 1).ld (i := 0) (s := .str) (p := bytesOf rr.1) rfl ?_
      simp only [bytesOf_size]
      have h4 := uvB_len rr.1.length
      have lds : ∀ {W A T} (k : ByteArray → Pr), St noF w6 W (A :: BoxA r14 (rcellsM rr) :: T) → k (bytesOf rr.1) W → ldC .str (Addr.add ⟨r14, 0, none⟩ 0) k W :=
        fun k s hk => (s.bring 1).ld (i := 0) (s := .str) (p := bytesOf rr.1) rfl hk
      have ldn : ∀ {W A T} (k : Int → Pr), St noF w6 W (A :: BoxA r14 (rcellsM rr) :: T) → k rr.2 W → ldC (.int .i64) (Addr.add ⟨r14, 0, none⟩ 1) k W :=
        fun k s hk => (s.bring 1).ld (i := 1) (s := .int .i64) (p := rr.2) rfl hk
      have nws : ∀ {W A T} {n : Int} (k : Nat → Pr), St noF w6 W (A :: BoxA r14 (rcellsM rr) :: T) → (∀ r' W', St noF w6 W' (A :: BoxA r14 (rcellsM rr) :: BoxA r' [.int .i64 n] :: T) → k r' W') → nw (.cells #[.int .i64 n] 3) k W :=
        fun k s hk => St.nwT2 s fun r' W' s' => hk r' W' s'
      have c1 : ∀ {W T} {r' : Nat} (k : Sl → Pr), St noF w6 W (SlA 1 b (pre3.map ub) :: T) → BoxA r' [.int .i64 (rr.1.length : Int)] ∈ T →
          (∀ b' W', St noF w6 W' (SlA 1 b' ((pre3 ++ uvB rr.1.length).map ub) :: T) → k b' W') →
          callF Tryd.prog 18 [.slice b.a b.len b.cap, .slice (some ⟨r', 0, none⟩) 1 1] [.c .slice] k W := fun k s hm hk => num1_25 s hm (by omega) (by omega) (by omega) hk
      have c2 : ∀ {W T} (b' : Sl) (k : Sl → Pr), St noF w6 W (SlA 1 b' ((pre3 ++ uvB rr.1.length).map ub) :: T) →
          (∀ b' W', St noF w6 W' (SlA 1 b' ((pre3 ++ uvB rr.1.length ++ rr.1).map ub) :: T) → k b' W') →
          appS 5 1 1 [.int .u8 0] b' (bytesOf rr.1) k W := fun b' k s hk => appS_of s (by rw [List.length_append]; omega) (by omega) hk
      have c3 : ∀ {W T} {r' : Nat} (b' : Sl), St noF w6 W (SlA 1 b' ((pre3 ++ uvB rr.1.length ++ rr.1).map ub) :: T) → BoxA r' [.int .i64 rr.2] ∈ T →
          callF Tryd.prog 18 [.slice b'.a b'.len b'.cap, .slice (some ⟨r', 0, none⟩) 1 1] [.c .slice] RR W := fun b' s hm => num1_25 s hm (by omega) (by omega) (by rw [List.length_append, List.length_append]; omega) fun b2 W' s' => by
            rw [hRR]
            unfold rootB datB
            simp only [List.append_assoc] at s' ⊢
            exact ⟨_, s'⟩
      repeat' first
        | with_reducible refine both_of ?_ ?_
        | with_reducible refine c3 _ st ?_
        | with_reducible refine c1 _ st ?_ fun _ _ st => ?_
        | exact List.mem_cons_of_mem _ (List.mem_cons_self ..)
        | exact List.mem_cons_of_mem _ (List.mem_cons_of_mem _ (List.mem_cons_self ..))
        | with_reducible refine c2 _ _ st fun _ _ st => ?_
        | with_reducible refine nws _ st fun _ _ st => ?_
        | with_reducible refine lds _ st ?_
        | with_reducible refine ldn _ st ?_
    intro b2 w10 s10
    rw [hRR, ← etk2] at s10
    obtain ⟨T, s10⟩ := s10
    rw [succ_i64 (by omega)]
    exact ⟨⟨j + 1, b2, rfl, by omega, St.dropR (l := [_]) s10⟩, by omega⟩
  · simp only [decide_eq_false_iff_not] at hge
    rw [List.take_of_length_le (by omega)] at sW
    have hC := hC c.rs.length
    rw [List.take_length] at hC
    have hbody : pre2 ++ uvB c.rs.length ++ c.rs.flatMap rootB = bodyB c.m (dataL c.m) := by
      rw [← hpre2, ← hpre]
      rfl
    rw [hbody] at sW hC
    unfold packB at fin
    generalize bodyB c.m (dataL c.m) = body at sW hC fin
    refine callF_of (Y27 b body W sW.sl.bs (by omega)) fun q W3 k3 => ?_
    exact fin q W3 ((sW.call0 k3).sel [0] 2)
end Go.Proofs


/-! The reference's Pack; slices of slices compared. -/
set_option maxRecDepth 20000
namespace Go.Proofs
open Go.Eng

def PostPackR (G : GG) (w : World) (r : Sl × Int × Int) (w' : World) : Prop :=
  (okG G = true ∧ r.2 = (0, 0) ∧ St noF w w' [SlA 1 r.1 ((packB (canM G)).map ub)]) ∨
  (okG G = false ∧ r.1 = ⟨none, 0, 0⟩ ∧ r.2 = (0, 180) ∧ Grow w w')

end Go.Proofs

set_option maxRecDepth 100000
namespace Go.Proofs
open Go.Eng

/-! attic/archive.wrong -/
def an25 : An := .z

def F25 (p0 : Int) (p1 : Value) (q : List PanicEntry → Pr) (Q : Unit → Pr) : Pr :=
  na p1 <|
  nw (.cells #[(.int .i64 p0), p1] 85) fun r =>
  q [⟨(.iface 97 (.agg #[(.pointer (some ⟨r, 0, none⟩))])), false, false⟩]

theorem F25_calls (p0 : Int) (p1 : Value) (q : List PanicEntry → Pr) (Q : Unit → Pr) (w : World) (h : F25 p0 p1 q Q w) : Calls Tryd.prog 25 #[(.int .i64 p0), p1] w (RetP q [] Q) :=
  callsP_of_compile (an := an25) (args := [(.int .i64 p0), p1]) (shs := []) Tryd.func25 (by
    have e : compileP Tryd.prog Tryd.f25 an25 [(.int .i64 p0), p1] [] q Q = F25 p0 p1 q Q := by kernel_rfl
    rw [e]; exact h)

/-! (*attic/archive.reader).below -/
def an45 : An := (.sq .z (.sq .z (.sq (.jn [] (.sq (.jn [(29, .c .bool)] .z) (.br .z .z))) (.sq .z (.sq .z .z)))))

def F45 (p0 : Option Addr) (p1 : Int) (q : List PanicEntry → Pr) (Q : Int → Pr) : Pr :=
  drw <|
  deref p0 fun a =>
  deref (some a) fun a_1 =>
  deref (some (a_1.add 0)) fun a_2 =>
  ldC .slice a_2 fun (t12 : Sl) =>
  deref p0 fun a_3 =>
  deref (some a_3) fun a_4 =>
  deref (some (a_4.add 1)) fun a_5 =>
  ldC (.int .i64) a_5 fun (t16 : Int) =>
  slc 1 t12 (some t16) none none fun t17 =>
  callFP Tryd.prog (fun ch => q ch) 58 [(.slice t17.a t17.len t17.cap)] [.c (.int .u64), .c (.int .i64), .c (.int .i64)] fun (t18 : Int × Int × Int) =>
  jn (S := Unit) (fun R =>
  jn (S := Bool) (fun R_1 =>
  br (t18.2.2 != 0) (
  R_1 true) (
  R_1 ((decide (t18.1 ≥ (IntKind.wrap .u64 p1)))))) fun s_1 =>
  br s_1 (
  deref p0 fun a_6 =>
  deref (some a_6) fun a_7 =>
  deref (some (a_7.add 1)) fun a_8 =>
  ldC (.int .i64) a_8 fun (t33 : Int) =>
  callFP Tryd.prog (fun ch_1 => q ch_1) 25 [(.int .i64 t33), (.iface 33 (.int .i64 260))] [] fun (t35 : Unit) =>
  R ()) (
  R ())) fun s =>
  deref p0 fun a_9 =>
  deref (some a_9) fun a_10 =>
  deref (some (a_10.add 1)) fun a_11 =>
  ldC (.int .i64) a_11 fun (t39 : Int) =>
  deref p0 fun a_12 =>
  deref (some a_12) fun a_13 =>
  deref (some (a_13.add 1)) fun a_14 =>
  st a_14 (.int .i64 (IntKind.wrap .i64 (t39 + t18.2.1))) <|
  Q ((IntKind.wrap .i64 t18.1))

theorem F45_calls (p0 : Option Addr) (p1 : Int) (q : List PanicEntry → Pr) (Q : Int → Pr) (w : World) (h : F45 p0 p1 q Q w) : Calls Tryd.prog 45 #[(.pointer p0), (.int .i64 p1)] w (RetP q [.c (.int .i64)] Q) :=
  callsP_of_compile (an := an45) (args := [(.pointer p0), (.int .i64 p1)]) (shs := [.c (.int .i64)]) Tryd.func45 (by
    have e : compileP Tryd.prog Tryd.f45 an45 [(.pointer p0), (.int .i64 p1)] [.c (.int .i64)] q Q = F45 p0 p1 q Q := by kernel_rfl
    rw [e]; exact h)

/-! (*attic/archive.reader).many -/
def an42 : An := (.sq .z (.sq .z .z))

def F42 (p0 : Option Addr) (q : List PanicEntry → Pr) (Q : Int → Pr) : Pr :=
  callFP Tryd.prog (fun ch => q ch) 45 [(.pointer p0), (.int .i64 8193)] [.c (.int .i64)] fun (t4 : Int) =>
  Q t4

theorem F42_calls (p0 : Option Addr) (q : List PanicEntry → Pr) (Q : Int → Pr) (w : World) (h : F42 p0 q Q w) : Calls Tryd.prog 42 #[(.pointer p0)] w (RetP q [.c (.int .i64)] Q) :=
  callsP_of_compile (an := an42) (args := [(.pointer p0)]) (shs := [.c (.int .i64)]) Tryd.func42 (by
    have e : compileP Tryd.prog Tryd.f42 an42 [(.pointer p0)] [.c (.int .i64)] q Q = F42 p0 q Q := by kernel_rfl
    rw [e]; exact h)

/-! (*attic/archive.reader).bytes -/
def an43 : An := (.sq .z (.sq .z (.sq .z (.sq (.jn [] (.sq .z (.br .z .z))) (.sq .z (.sq .z .z))))))

def F43 (p0 : Option Addr) (q : List PanicEntry → Pr) (Q : Sl → Pr) : Pr :=
  deref p0 fun a =>
  deref (some a) fun a_1 =>
  deref (some (a_1.add 1)) fun a_2 =>
  ldC (.int .i64) a_2 fun (t8 : Int) =>
  callFP Tryd.prog (fun ch => q ch) 42 [(.pointer p0)] [.c (.int .i64)] fun (t10 : Int) =>
  jn (S := Unit) (fun R =>
  drw <|
  deref p0 fun a_3 =>
  deref (some a_3) fun a_4 =>
  deref (some (a_4.add 0)) fun a_5 =>
  ldC .slice a_5 fun (t15 : Sl) =>
  deref p0 fun a_6 =>
  deref (some a_6) fun a_7 =>
  deref (some (a_7.add 1)) fun a_8 =>
  ldC (.int .i64) a_8 fun (t20 : Int) =>
  br (decide (t10 > (IntKind.wrap .i64 ((t15.len : Int) - t20)))) (
  callFP Tryd.prog (fun ch_1 => q ch_1) 25 [(.int .i64 t8), (.iface 33 (.int .i64 260))] [] fun (t25 : Unit) =>
  R ()) (
  R ())) fun s =>
  deref p0 fun a_9 =>
  deref (some a_9) fun a_10 =>
  deref (some (a_10.add 1)) fun a_11 =>
  ldC (.int .i64) a_11 fun (t29 : Int) =>
  deref p0 fun a_12 =>
  deref (some a_12) fun a_13 =>
  deref (some (a_13.add 1)) fun a_14 =>
  st a_14 (.int .i64 (IntKind.wrap .i64 (t29 + t10))) <|
  drw <|
  deref p0 fun a_15 =>
  deref (some a_15) fun a_16 =>
  deref (some (a_16.add 0)) fun a_17 =>
  ldC .slice a_17 fun (t37 : Sl) =>
  deref p0 fun a_18 =>
  deref (some a_18) fun a_19 =>
  deref (some (a_19.add 1)) fun a_20 =>
  ldC (.int .i64) a_20 fun (t41 : Int) =>
  deref p0 fun a_21 =>
  deref (some a_21) fun a_22 =>
  deref (some (a_22.add 1)) fun a_23 =>
  ldC (.int .i64) a_23 fun (t47 : Int) =>
  slc 1 t37 (some (IntKind.wrap .i64 (t41 - t10))) (some t47) none fun t48 =>
  callFP Tryd.prog (fun ch_2 => q ch_2) 41 [(.slice t48.a t48.len t48.cap)] [.c .slice] fun (t49 : Sl) =>
  Q t49

theorem F43_calls (p0 : Option Addr) (q : List PanicEntry → Pr) (Q : Sl → Pr) (w : World) (h : F43 p0 q Q w) : Calls Tryd.prog 43 #[(.pointer p0)] w (RetP q [.c .slice] Q) :=
  callsP_of_compile (an := an43) (args := [(.pointer p0)]) (shs := [.c .slice]) Tryd.func43 (by
    have e : compileP Tryd.prog Tryd.f43 an43 [(.pointer p0)] [.c .slice] q Q = F43 p0 q Q := by kernel_rfl
    rw [e]; exact h)

/-! (*attic/archive.reader).node -/
def an44 : An := (.sq .z (.sq .z (.sq .z (.sq (.sq .z (.bl (.lp [(20, .c (.int .i64))] (.sq .z (.sq (.br .z .z) (.sq (.jn [] (.bl .z)) .z)))))) (.sq .z .z)))))

def F44 (p0 : Option Addr) (p1 : Sl) (q : List PanicEntry → Pr) (Q : Int × Sl × Sl → Pr) : Pr :=
  nw (.cells #[(.int .i64 0), (.slice none 0 0), (.slice none 0 0)] 38) fun r =>
  callFP Tryd.prog (fun ch => q ch) 45 [(.pointer p0), (.int .i64 4)] [.c (.int .i64)] fun (t7 : Int) =>
  nw (.cells #[(.int .i64 0), (.slice none 0 0), (.slice none 0 0)] 38) fun r_1 =>
  deref (some ⟨r_1, 0, none⟩) fun a =>
  st (a.add 0) (.int .i64 t7) <|
  st (a.add 1) (.slice none 0 0) <|
  st (a.add 2) (.slice none 0 0) <|
  callFP Tryd.prog (fun ch_1 => q ch_1) 45 [(.pointer p0), (.int .i64 (p1.len : Int))] [.c (.int .i64)] fun (t13 : Int) =>
  owe ((0 : Int) ≤ t13 ∧ t13 < (p1.len : Int)) <|
  deref p1.a fun a_1 =>
  deref (some (a_1.add (Int.toNat t13 * 1))) fun a_2 =>
  ldC .slice a_2 fun (t15 : Sl) =>
  callFP Tryd.prog (fun ch_2 => q ch_2) 41 [(.slice t15.a t15.len t15.cap)] [.c .slice] fun (t16 : Sl) =>
  deref (some ⟨r_1, 0, none⟩) fun a_3 =>
  deref (some (a_3.add 2)) fun a_4 =>
  st a_4 (.slice t16.a t16.len t16.cap) <|
  callFP Tryd.prog (fun ch_3 => q ch_3) 42 [(.pointer p0)] [.c (.int .i64)] fun (t19 : Int) =>
  loopE (S := Int) (fun X s =>
  br (decide (s < t19)) (
  jn (S := Unit) (fun R =>
  drw <|
  deref (some ⟨r_1, 0, none⟩) fun a_5 =>
  both (
  deref (some (a_5.add 1)) fun a_6 =>
  ldC .slice a_6 fun (t23 : Sl) =>
  callFP Tryd.prog (fun ch_4 => q ch_4) 42 [(.pointer p0)] [.c (.int .i64)] fun (t25 : Int) =>
  nw (.cells #[(.int .i64 (IntKind.wrap .i64 (t25 - 1)))] 3) fun r_2 =>
  app 3 1 8 [(.int .i64 0)] t23 ⟨(some ⟨r_2, 0, none⟩), 1, 1⟩ fun t28 =>
  deref (some ⟨r_1, 0, none⟩) fun a_7 =>
  deref (some (a_7.add 1)) fun a_8 =>
  st a_8 (.slice t28.a t28.len t28.cap) <|
  R ()) (
  callFP Tryd.prog (fun ch_5 => q ch_5) 42 [(.pointer p0)] [.c (.int .i64)] fun (t25_1 : Int) =>
  deref (some (a_5.add 1)) fun a_9 =>
  ldC .slice a_9 fun (t23_1 : Sl) =>
  nw (.cells #[(.int .i64 (IntKind.wrap .i64 (t25_1 - 1)))] 3) fun r_3 =>
  app 3 1 8 [(.int .i64 0)] t23_1 ⟨(some ⟨r_3, 0, none⟩), 1, 1⟩ fun t28_1 =>
  deref (some ⟨r_1, 0, none⟩) fun a_10 =>
  deref (some (a_10.add 1)) fun a_11 =>
  st a_11 (.slice t28_1.a t28_1.len t28_1.cap) <|
  R ())) fun s_1 =>
  X ((IntKind.wrap .i64 (s + 1)))) (
  deref (some ⟨r_1, 0, none⟩) fun a_12 =>
  ldA [(.int .i64), .slice, .slice] a_12 fun (t31 : Int × Sl × Sl) =>
  deref (some ⟨r, 0, none⟩) fun a_13 =>
  st (a_13.add 0) (.int .i64 t31.1) <|
  st (a_13.add 1) (.slice t31.2.1.a t31.2.1.len t31.2.1.cap) <|
  st (a_13.add 2) (.slice t31.2.2.a t31.2.2.len t31.2.2.cap) <|
  deref (some ⟨r, 0, none⟩) fun a_14 =>
  ldA [(.int .i64), .slice, .slice] a_14 fun (res : Int × Sl × Sl) =>
  Q ((res.1, res.2.1, res.2.2)))) 0

theorem F44_calls (p0 : Option Addr) (p1 : Sl) (q : List PanicEntry → Pr) (Q : Int × Sl × Sl → Pr) (w : World) (h : F44 p0 p1 q Q w) : Calls Tryd.prog 44 #[(.pointer p0), (.slice p1.a p1.len p1.cap)] w (RetP q [.agg [(.int .i64), .slice, .slice]] Q) :=
  callsP_of_compile (an := an44) (args := [(.pointer p0), (.slice p1.a p1.len p1.cap)]) (shs := [.agg [(.int .i64), .slice, .slice]]) Tryd.func44 (by
    have e : compileP Tryd.prog Tryd.f44 an44 [(.pointer p0), (.slice p1.a p1.len p1.cap)] [.agg [(.int .i64), .slice, .slice]] q Q = F44 p0 p1 q Q := by kernel_rfl
    rw [e]; exact h)

/-! (*attic/archive.reader).read -/
def an27 : An := (.sq .z (.sq .z (.sq .z (.sq (.sq .z (.bl (.lp [(5, .c .slice), (9, .c (.int .i64))] (.sq .z (.sq (.br .z .z) (.sq (.bl .z) .z)))))) (.sq (.sq .z (.bl (.lp [(19, .c (.int .i64))] (.sq .z (.sq (.br .z .z) (.sq (.jn [] (.bl .z)) .z)))))) (.sq (.sq .z (.bl (.lp [(32, .c (.int .i64))] (.sq .z (.sq (.br .z .z) (.sq (.jn [] (.bl (.sq .z .z))) .z)))))) (.sq (.jn [] (.sq .z (.br .z .z))) (.sq .z .z))))))))

def F27 (p0 : Option Addr) (q : List PanicEntry → Pr) (Q : (Sl × Sl) × Sl → Pr) : Pr :=
  nw (.cells #[(.slice none 0 0), (.slice none 0 0)] 25) fun r =>
  nw (.cells #[(.slice none 0 0), (.slice none 0 0)] 25) fun r_1 =>
  callFP Tryd.prog (fun ch => q ch) 42 [(.pointer p0)] [.c (.int .i64)] fun (t8 : Int) =>
  loopE (S := Sl × Int) (fun X s =>
  br (decide (s.2 < t8)) (
  callFP Tryd.prog (fun ch_1 => q ch_1) 43 [(.pointer p0)] [.c .slice] fun (t13 : Sl) =>
  nw (.cells #[(.slice t13.a t13.len t13.cap)] 28) fun r_2 =>
  app 28 1 24 [(.slice none 0 0)] s.1 ⟨(some ⟨r_2, 0, none⟩), 1, 1⟩ fun t15 =>
  X (t15, (IntKind.wrap .i64 (s.2 + 1)))) (
  callFP Tryd.prog (fun ch_2 => q ch_2) 42 [(.pointer p0)] [.c (.int .i64)] fun (t18 : Int) =>
  loopE (S := Int) (fun X_1 s_1 =>
  br (decide (s_1 < t18)) (
  jn (S := Unit) (fun R =>
  drw <|
  deref (some ⟨r_1, 0, none⟩) fun a =>
  both (
  deref (some (a.add 0)) fun a_1 =>
  ldC .slice a_1 fun (t22 : Sl) =>
  callFP Tryd.prog (fun ch_3 => q ch_3) 44 [(.pointer p0), (.slice s.1.a s.1.len s.1.cap)] [.agg [(.int .i64), .slice, .slice]] fun (t25 : Int × Sl × Sl) =>
  nw (.cells #[(.int .i64 t25.1), (.slice t25.2.1.a t25.2.1.len t25.2.1.cap), (.slice t25.2.2.a t25.2.2.len t25.2.2.cap)] 38) fun r_3 =>
  app 38 3 56 [(.int .i64 0), (.slice none 0 0), (.slice none 0 0)] t22 ⟨(some ⟨r_3, 0, none⟩), 1, 1⟩ fun t27 =>
  deref (some ⟨r_1, 0, none⟩) fun a_2 =>
  deref (some (a_2.add 0)) fun a_3 =>
  st a_3 (.slice t27.a t27.len t27.cap) <|
  R ()) (
  callFP Tryd.prog (fun ch_4 => q ch_4) 44 [(.pointer p0), (.slice s.1.a s.1.len s.1.cap)] [.agg [(.int .i64), .slice, .slice]] fun (t25_1 : Int × Sl × Sl) =>
  deref (some (a.add 0)) fun a_4 =>
  ldC .slice a_4 fun (t22_1 : Sl) =>
  nw (.cells #[(.int .i64 t25_1.1), (.slice t25_1.2.1.a t25_1.2.1.len t25_1.2.1.cap), (.slice t25_1.2.2.a t25_1.2.2.len t25_1.2.2.cap)] 38) fun r_4 =>
  app 38 3 56 [(.int .i64 0), (.slice none 0 0), (.slice none 0 0)] t22_1 ⟨(some ⟨r_4, 0, none⟩), 1, 1⟩ fun t27_1 =>
  deref (some ⟨r_1, 0, none⟩) fun a_5 =>
  deref (some (a_5.add 0)) fun a_6 =>
  st a_6 (.slice t27_1.a t27_1.len t27_1.cap) <|
  R ())) fun s_2 =>
  X_1 ((IntKind.wrap .i64 (s_1 + 1)))) (
  callFP Tryd.prog (fun ch_5 => q ch_5) 42 [(.pointer p0)] [.c (.int .i64)] fun (t31 : Int) =>
  loopE (S := Int) (fun X_2 s_3 =>
  br (decide (s_3 < t31)) (
  jn (S := Unit) (fun R_1 =>
  callFP Tryd.prog (fun ch_6 => q ch_6) 43 [(.pointer p0)] [.c .slice] fun (t35 : Sl) =>
  b2s t35 fun t36 =>
  drw <|
  deref (some ⟨r_1, 0, none⟩) fun a_7 =>
  both (
  deref (some (a_7.add 1)) fun a_8 =>
  ldC .slice a_8 fun (t38 : Sl) =>
  callFP Tryd.prog (fun ch_7 => q ch_7) 45 [(.pointer p0), (.int .i64 8192)] [.c (.int .i64)] fun (t41 : Int) =>
  nw (.cells #[(.string t36), (.int .i64 t41)] 43) fun r_5 =>
  app 43 2 24 [(.string (⟨#[]⟩ : ByteArray)), (.int .i64 0)] t38 ⟨(some ⟨r_5, 0, none⟩), 1, 1⟩ fun t44 =>
  deref (some ⟨r_1, 0, none⟩) fun a_9 =>
  deref (some (a_9.add 1)) fun a_10 =>
  st a_10 (.slice t44.a t44.len t44.cap) <|
  R_1 ()) (
  callFP Tryd.prog (fun ch_8 => q ch_8) 45 [(.pointer p0), (.int .i64 8192)] [.c (.int .i64)] fun (t41_1 : Int) =>
  deref (some (a_7.add 1)) fun a_11 =>
  ldC .slice a_11 fun (t38_1 : Sl) =>
  nw (.cells #[(.string t36), (.int .i64 t41_1)] 43) fun r_6 =>
  app 43 2 24 [(.string (⟨#[]⟩ : ByteArray)), (.int .i64 0)] t38_1 ⟨(some ⟨r_6, 0, none⟩), 1, 1⟩ fun t44_1 =>
  deref (some ⟨r_1, 0, none⟩) fun a_12 =>
  deref (some (a_12.add 1)) fun a_13 =>
  st a_13 (.slice t44_1.a t44_1.len t44_1.cap) <|
  R_1 ())) fun s_4 =>
  X_2 ((IntKind.wrap .i64 (s_3 + 1)))) (
  jn (S := Unit) (fun R_2 =>
  drw <|
  deref p0 fun a_14 =>
  deref (some a_14) fun a_15 =>
  deref (some (a_15.add 1)) fun a_16 =>
  ldC (.int .i64) a_16 fun (t50 : Int) =>
  deref p0 fun a_17 =>
  deref (some a_17) fun a_18 =>
  deref (some (a_18.add 0)) fun a_19 =>
  ldC .slice a_19 fun (t54 : Sl) =>
  br (decide (t50 < (t54.len : Int))) (
  deref p0 fun a_20 =>
  deref (some a_20) fun a_21 =>
  deref (some (a_21.add 1)) fun a_22 =>
  ldC (.int .i64) a_22 fun (t60 : Int) =>
  callFP Tryd.prog (fun ch_9 => q ch_9) 25 [(.int .i64 t60), (.iface 33 (.int .i64 260))] [] fun (t62 : Unit) =>
  R_2 ()) (
  R_2 ())) fun s_5 =>
  deref (some ⟨r_1, 0, none⟩) fun a_23 =>
  ldA [.slice, .slice] a_23 fun (t63 : Sl × Sl) =>
  deref (some ⟨r, 0, none⟩) fun a_24 =>
  st (a_24.add 0) (.slice t63.1.a t63.1.len t63.1.cap) <|
  st (a_24.add 1) (.slice t63.2.a t63.2.len t63.2.cap) <|
  deref (some ⟨r, 0, none⟩) fun a_25 =>
  ldA [.slice, .slice] a_25 fun (res : Sl × Sl) =>
  Q ((res.1, res.2), s.1))) 0)) 0)) (⟨none, 0, 0⟩, 0)

theorem F27_calls (p0 : Option Addr) (q : List PanicEntry → Pr) (Q : (Sl × Sl) × Sl → Pr) (w : World) (h : F27 p0 q Q w) : Calls Tryd.prog 27 #[(.pointer p0)] w (RetP q [.agg [.slice, .slice], .c .slice] Q) :=
  callsP_of_compile (an := an27) (args := [(.pointer p0)]) (shs := [.agg [.slice, .slice], .c .slice]) Tryd.func27 (by
    have e : compileP Tryd.prog Tryd.f27 an27 [(.pointer p0)] [.agg [.slice, .slice], .c .slice] q Q = F27 p0 q Q := by kernel_rfl
    rw [e]; exact h)

/-! attic/archive.Unpack -/
def an12 : An := (.sq .z (.sq .z (.sq .z (.sq (.jn [] (.sq (.jn [(24, .c .bool)] .z) (.br .z .z))) (.sq .z (.sq (.jn [] (.sq .z (.sq .z (.br .z .z)))) (.sq .z (.sq .z (.sq .z (.sq (.jn [] (.sq (.jn [(74, .c .bool)] .z) (.br .z .z))) (.sq .z .z)))))))))))

def F12 (p0 : Sl) (Q : (Sl × Sl) × Value → Pr) : Pr :=
  nw (.cells #[(.slice none 0 0), (.slice none 0 0)] 25) fun r =>
  owe (NotAgg .nilIface) <| nw (.cells #[.nilIface] 30) fun r_1 =>
  jn (S := Unit) (fun R =>
  jn (S := Bool) (fun R_1 =>
  br (decide ((p0.len : Int) < (IntKind.wrap .i64 (8 + 4)))) (
  R_1 true) (
  slc 1 p0 none (some 8) none fun t21 =>
  b2s t21 fun t22 =>
  R_1 ((!(t22.toList == (⟨#[97, 116, 116, 105, 99, 32, 97, 10]⟩ : ByteArray).toList))))) fun s_1 =>
  br s_1 (
  callFP Tryd.prog (fun ch => callD Tryd.prog (.panicking ch) 24 [(.pointer (some ⟨r, 0, none⟩)), (.pointer (some ⟨r_1, 0, none⟩))] <|
  deref (some ⟨r, 0, none⟩) fun a =>
  ldA [.slice, .slice] a fun (res : Sl × Sl) =>
  deref (some ⟨r_1, 0, none⟩) fun a_1 =>
  ldC .any a_1 fun (res_1 : Value) =>
  Q ((res.1, res.2), res_1)) 25 [(.int .i64 0), (.iface 33 (.int .i64 260))] [] fun (t26 : Unit) =>
  R ()) (
  R ())) fun s =>
  jn (S := Unit) (fun R_2 =>
  callFP Tryd.prog (fun ch_1 => callD Tryd.prog (.panicking ch_1) 24 [(.pointer (some ⟨r, 0, none⟩)), (.pointer (some ⟨r_1, 0, none⟩))] <|
  deref (some ⟨r, 0, none⟩) fun a_2 =>
  ldA [.slice, .slice] a_2 fun (res_2 : Sl × Sl) =>
  deref (some ⟨r_1, 0, none⟩) fun a_3 =>
  ldC .any a_3 fun (res_3 : Value) =>
  Q ((res_2.1, res_2.2), res_3)) 26 [(.slice p0.a p0.len p0.cap)] [.c .slice, .c (.int .i64)] fun (t32 : Sl × Int) =>
  br (t32.2 != 0) (
  callFP Tryd.prog (fun ch_2 => callD Tryd.prog (.panicking ch_2) 24 [(.pointer (some ⟨r, 0, none⟩)), (.pointer (some ⟨r_1, 0, none⟩))] <|
  deref (some ⟨r, 0, none⟩) fun a_4 =>
  ldA [.slice, .slice] a_4 fun (res_4 : Sl × Sl) =>
  deref (some ⟨r_1, 0, none⟩) fun a_5 =>
  ldC .any a_5 fun (res_5 : Value) =>
  Q ((res_4.1, res_4.2), res_5)) 25 [(.int .i64 (IntKind.wrap .i64 ((p0.len : Int) - 4))), (.iface 33 (.int .i64 t32.2))] [] fun (t40 : Unit) =>
  R_2 ()) (
  R_2 ())) fun s_2 =>
  slc 1 p0 none (some (IntKind.wrap .i64 ((p0.len : Int) - 4))) none fun t43 =>
  nw (.cells #[(.slice t43.a t43.len t43.cap), (.int .i64 8)] 73) fun r_2 =>
  callFP Tryd.prog (fun ch_3 => callD Tryd.prog (.panicking ch_3) 24 [(.pointer (some ⟨r, 0, none⟩)), (.pointer (some ⟨r_1, 0, none⟩))] <|
  deref (some ⟨r, 0, none⟩) fun a_6 =>
  ldA [.slice, .slice] a_6 fun (res_6 : Sl × Sl) =>
  deref (some ⟨r_1, 0, none⟩) fun a_7 =>
  ldC .any a_7 fun (res_7 : Value) =>
  Q ((res_6.1, res_6.2), res_7)) 27 [(.pointer (some ⟨r_2, 0, none⟩))] [.agg [.slice, .slice], .c .slice] fun (t49 : (Sl × Sl) × Sl) =>
  nw (.cells #[(.slice none 0 0), (.slice none 0 0)] 25) fun r_3 =>
  deref (some ⟨r_3, 0, none⟩) fun a_8 =>
  st (a_8.add 0) (.slice t49.1.1.a t49.1.1.len t49.1.1.cap) <|
  st (a_8.add 1) (.slice t49.1.2.a t49.1.2.len t49.1.2.cap) <|
  deref (some ⟨r_3, 0, none⟩) fun a_9 =>
  ldA [.slice, .slice] a_9 fun (t53 : Sl × Sl) =>
  callFP Tryd.prog (fun ch_4 => callD Tryd.prog (.panicking ch_4) 24 [(.pointer (some ⟨r, 0, none⟩)), (.pointer (some ⟨r_1, 0, none⟩))] <|
  deref (some ⟨r, 0, none⟩) fun a_10 =>
  ldA [.slice, .slice] a_10 fun (res_8 : Sl × Sl) =>
  deref (some ⟨r_1, 0, none⟩) fun a_11 =>
  ldC .any a_11 fun (res_9 : Value) =>
  Q ((res_8.1, res_8.2), res_9)) 15 [(.agg #[(.slice t53.1.a t53.1.len t53.1.cap), (.slice t53.2.a t53.2.len t53.2.cap)])] [.agg [.slice, .slice], .c (.int .i64)] fun (t54 : (Sl × Sl) × Int) =>
  nw (.cells #[(.slice none 0 0), (.slice none 0 0)] 25) fun r_4 =>
  deref (some ⟨r_4, 0, none⟩) fun a_12 =>
  st (a_12.add 0) (.slice t54.1.1.a t54.1.1.len t54.1.1.cap) <|
  st (a_12.add 1) (.slice t54.1.2.a t54.1.2.len t54.1.2.cap) <|
  jn (S := Unit) (fun R_3 =>
  jn (S := Bool) (fun R_4 =>
  br (t54.2 != 0) (
  R_4 true) (
  deref (some ⟨r_4, 0, none⟩) fun a_13 =>
  ldA [.slice, .slice] a_13 fun (t60 : Sl × Sl) =>
  deref (some ⟨r_3, 0, none⟩) fun a_14 =>
  ldA [.slice, .slice] a_14 fun (t61 : Sl × Sl) =>
  callFP Tryd.prog (fun ch_5 => callD Tryd.prog (.panicking ch_5) 24 [(.pointer (some ⟨r, 0, none⟩)), (.pointer (some ⟨r_1, 0, none⟩))] <|
  deref (some ⟨r, 0, none⟩) fun a_15 =>
  ldA [.slice, .slice] a_15 fun (res_10 : Sl × Sl) =>
  deref (some ⟨r_1, 0, none⟩) fun a_16 =>
  ldC .any a_16 fun (res_11 : Value) =>
  Q ((res_10.1, res_10.2), res_11)) 28 [(.agg #[(.slice t60.1.a t60.1.len t60.1.cap), (.slice t60.2.a t60.2.len t60.2.cap)]), (.agg #[(.slice t61.1.a t61.1.len t61.1.cap), (.slice t61.2.a t61.2.len t61.2.cap)])] [.c .bool] fun (t62 : Bool) =>
  br (!t62) (
  R_4 true) (
  deref (some ⟨r_3, 0, none⟩) fun a_17 =>
  ldA [.slice, .slice] a_17 fun (t66 : Sl × Sl) =>
  callFP Tryd.prog (fun ch_6 => callD Tryd.prog (.panicking ch_6) 24 [(.pointer (some ⟨r, 0, none⟩)), (.pointer (some ⟨r_1, 0, none⟩))] <|
  deref (some ⟨r, 0, none⟩) fun a_18 =>
  ldA [.slice, .slice] a_18 fun (res_12 : Sl × Sl) =>
  deref (some ⟨r_1, 0, none⟩) fun a_19 =>
  ldC .any a_19 fun (res_13 : Value) =>
  Q ((res_12.1, res_12.2), res_13)) 17 [(.agg #[(.slice t66.1.a t66.1.len t66.1.cap), (.slice t66.2.a t66.2.len t66.2.cap)])] [.c .ptr] fun (t67 : Option Addr) =>
  deref t67 fun a_20 =>
  deref (some a_20) fun a_21 =>
  deref (some (a_21.add 0)) fun a_22 =>
  ldC .slice a_22 fun (t70 : Sl) =>
  callFP Tryd.prog (fun ch_7 => callD Tryd.prog (.panicking ch_7) 24 [(.pointer (some ⟨r, 0, none⟩)), (.pointer (some ⟨r_1, 0, none⟩))] <|
  deref (some ⟨r, 0, none⟩) fun a_23 =>
  ldA [.slice, .slice] a_23 fun (res_14 : Sl × Sl) =>
  deref (some ⟨r_1, 0, none⟩) fun a_24 =>
  ldC .any a_24 fun (res_15 : Value) =>
  Q ((res_14.1, res_14.2), res_15)) 29 [(.slice t70.a t70.len t70.cap), (.slice t49.2.a t49.2.len t49.2.cap), (.func (.func 10) #[] #[])] [.c .bool] fun (t72 : Bool) =>
  R_4 (!t72)))) fun s_4 =>
  br s_4 (
  callFP Tryd.prog (fun ch_8 => callD Tryd.prog (.panicking ch_8) 24 [(.pointer (some ⟨r, 0, none⟩)), (.pointer (some ⟨r_1, 0, none⟩))] <|
  deref (some ⟨r, 0, none⟩) fun a_25 =>
  ldA [.slice, .slice] a_25 fun (res_16 : Sl × Sl) =>
  deref (some ⟨r_1, 0, none⟩) fun a_26 =>
  ldC .any a_26 fun (res_17 : Value) =>
  Q ((res_16.1, res_16.2), res_17)) 25 [(.int .i64 (IntKind.wrap .i64 ((p0.len : Int) - 4))), (.iface 33 (.int .i64 180))] [] fun (t77 : Unit) =>
  R_3 ()) (
  R_3 ())) fun s_3 =>
  deref (some ⟨r_3, 0, none⟩) fun a_27 =>
  ldA [.slice, .slice] a_27 fun (t78 : Sl × Sl) =>
  deref (some ⟨r, 0, none⟩) fun a_28 =>
  st (a_28.add 0) (.slice t78.1.a t78.1.len t78.1.cap) <|
  st (a_28.add 1) (.slice t78.2.a t78.2.len t78.2.cap) <|
  deref (some ⟨r_1, 0, none⟩) fun a_29 =>
  st a_29 .nilIface <|
  callD Tryd.prog .returning 24 [(.pointer (some ⟨r, 0, none⟩)), (.pointer (some ⟨r_1, 0, none⟩))] <|
  deref (some ⟨r, 0, none⟩) fun a_30 =>
  ldA [.slice, .slice] a_30 fun (res_18 : Sl × Sl) =>
  deref (some ⟨r_1, 0, none⟩) fun a_31 =>
  ldC .any a_31 fun (res_19 : Value) =>
  Q ((res_18.1, res_18.2), res_19)

theorem F12_calls (p0 : Sl) (Q : (Sl × Sl) × Value → Pr) (w : World) (h : F12 p0 Q w) : Calls Tryd.prog 12 #[(.slice p0.a p0.len p0.cap)] w (RetT [.agg [.slice, .slice], .c .any] Q) :=
  callsD_of_compile (an := an12) (args := [(.slice p0.a p0.len p0.cap)]) (shs := [.agg [.slice, .slice], .c .any]) Tryd.func12 (by
    have e : compileD Tryd.prog Tryd.f12 an12 [(.slice p0.a p0.len p0.cap)] [.agg [.slice, .slice], .c .any] Q = F12 p0 Q := by kernel_rfl
    rw [e]; exact h)


end Go.Proofs

/-! Reading: the models, and the program's reader. -/
set_option maxRecDepth 20000
namespace Go.Proofs
open Go.Eng

/-! ### models -/

/-- what is read, and up to where, or where it is wrong -/
abbrev Got (α : Type) := Except Nat (α × Nat)

def numP (l : List UInt8) (most p : Nat) : Got Nat := if (takeM (l.drop p)).2.2 ≠ 0 ∨ most ≤ (takeM (l.drop p)).1 then .error p else .ok ((takeM (l.drop p)).1, p + (takeM (l.drop p)).2.1)
def bytP (l : List UInt8) (p : Nat) : Got (List UInt8) :=
  match numP l 8193 p with
  | .error e => .error e
  | .ok (n, q) => if l.length - q < n then .error p else .ok ((l.drop q).take n, q + n)
def pre {α : Type} (acc : List α) : Got (List α) → Got (List α)
  | .error e => .error e
  | .ok (xs, p) => .ok (acc ++ xs, p)
def repP {α : Type} (f : Nat → Got α) : Nat → Nat → Got (List α)
  | 0, p => .ok ([], p)
  | n + 1, p => match f p with
    | .error e => .error e
    | .ok (x, q) => pre [x] (repP f n q)
def ptrP (l : List UInt8) (p : Nat) : Got Int :=
  match numP l 8193 p with
  | .error e => .error e
  | .ok (v, q) => .ok ((v : Int) - 1, q)
def nodeP (l : List UInt8) (ds : List (List UInt8)) (p : Nat) : Got GN :=
  match numP l 4 p with
  | .error e => .error e
  | .ok (k, p1) => match numP l ds.length p1 with
    | .error e => .error e
    | .ok (d, p2) => match numP l 8193 p2 with
      | .error e => .error e
      | .ok (m, p3) => match repP (ptrP l) m p3 with
        | .error e => .error e
        | .ok (ps, p4) => .ok (⟨(k : Int), ps, (ds[d]?).getD []⟩, p4)
def rootP (l : List UInt8) (p : Nat) : Got RM :=
  match bytP l p with
  | .error e => .error e
  | .ok (name, q) => match numP l 8192 q with
    | .error e => .error e
    | .ok (v, r) => .ok ((name, (v : Int)), r)
def datasP (l : List UInt8) (p : Nat) : Got (List (List UInt8)) :=
  match numP l 8193 p with
  | .error e => .error e
  | .ok (m, q) => repP (bytP l) m q
def nodesP (l : List UInt8) (ds : List (List UInt8)) (p : Nat) : Got (List GN) :=
  match numP l 8193 p with
  | .error e => .error e
  | .ok (m, q) => repP (nodeP l ds) m q
def rootsP (l : List UInt8) (p : Nat) : Got (List RM) :=
  match numP l 8193 p with
  | .error e => .error e
  | .ok (m, q) => repP (rootP l) m q
def graphP (l : List UInt8) (p : Nat) : Except Nat (GG × List (List UInt8)) :=
  match datasP l p with
  | .error e => .error e
  | .ok (ds, p1) => match nodesP l ds p1 with
    | .error e => .error e
    | .ok (ns, p2) => match rootsP l p2 with
      | .error e => .error e
      | .ok (rs, p3) => if p3 < l.length then .error p3 else .ok (⟨ns, rs⟩, ds)

theorem pre_nil {α : Type} (x : Got (List α)) : pre [] x = x := by cases x <;> rfl
theorem pre_pre {α : Type} (a b : List α) (x : Got (List α)) : pre a (pre b x) = pre (a ++ b) x := by
  cases x with
  | error e => rfl
  | ok y => simp [pre]
theorem repP_next {α : Type} {f : Nat → Got α} {n i p q : Nat} {acc : List α} {x : α} (hi : i < n) (hf : f p = .ok (x, q)) : pre acc (repP f (n - i) p) = pre (acc ++ [x]) (repP f (n - (i + 1)) q) := by
  rw [show n - i = (n - (i + 1)) + 1 by omega, repP, hf, ← pre_pre]
theorem repP_err {α : Type} {f : Nat → Got α} {n i p e : Nat} {acc : List α} (hi : i < n) (hf : f p = .error e) : pre acc (repP f (n - i) p) = .error e := by
  rw [show n - i = (n - (i + 1)) + 1 by omega, repP, hf]
  rfl
theorem repP_end {α : Type} {f : Nat → Got α} {n i p : Nat} {acc : List α} (hi : n ≤ i) : pre acc (repP f (n - i) p) = .ok (acc, p) := by
  rw [show n - i = 0 by omega, repP, pre, List.append_nil]

theorem tk_le (l : List UInt8) : ∀ (v i : Nat), (tkGo l v i).2.2 = 0 → (tkGo l v i).2.1 ≤ i + l.length := by
  induction l with
  | nil => intro v i h; simp [tkGo] at h
  | cons c l ih =>
    intro v i h
    rw [tk_unfold] at h ⊢
    split at h
    · simp at h
    · rename_i h1
      rw [if_neg h1]
      split at h
      · rename_i h2
        rw [if_pos h2]
        simp
      · rename_i h2
        rw [if_neg h2]
        have := ih _ _ h
        rw [List.length_cons]
        omega
theorem numP_ok {l : List UInt8} {most p v q : Nat} (h : numP l most p = .ok (v, q)) (hp : p ≤ l.length) : v < most ∧ q ≤ l.length := by
  unfold numP at h
  split at h
  · cases h
  · rename_i hc
    simp only [not_or, Decidable.not_not, Nat.not_le] at hc
    simp only [Except.ok.injEq, Prod.mk.injEq] at h
    have := tk_le (l.drop p) 0 0 hc.1
    rw [List.length_drop] at this
    have h2 : (takeM (l.drop p)).2.1 ≤ 0 + (l.length - p) := this
    omega

/-! ### calls that may panic -/

theorem callFP_of {P : Program} {f : FuncId} {args : List Value} {shs : List Sh} {q q0 : List PanicEntry → Pr} {k post : PayL shs → Pr} {w : World} (h : Calls P f args.toArray w (RetP q0 shs post)) (hq : ∀ ch w', q0 ch w' → q ch w') (hk : ∀ r w', post r w' → k r w') : callFP P q f args shs k w :=
  h.mono fun _ _ h => h.imp (fun ⟨p, he, hp⟩ => ⟨p, he, hk _ _ hp⟩) fun ⟨ch, he, hp⟩ => ⟨ch, he, hq _ _ hp⟩
theorem callFP_T {P : Program} {f : FuncId} {args : List Value} {shs : List Sh} {q : List PanicEntry → Pr} {k post : PayL shs → Pr} {w : World} (h : Calls P f args.toArray w (RetT shs post)) (hk : ∀ r w', post r w' → k r w') : callFP P q f args shs k w :=
  h.mono fun _ _ ⟨p, he, hp⟩ => .inl ⟨p, he, hk _ _ hp⟩

abbrev bad1 (r : Nat) : List PanicEntry := [⟨.iface 97 (.agg #[.pointer (some ⟨r, 0, none⟩)]), false, false⟩]
abbrev RdA (rd : Nat) (bs : Sl) (p : Nat) : HA := BoxA rd [slV bs, .int .i64 p]
abbrev BadA (r : Nat) (e : Int) (n : Int) : HA := BoxA r [.int .i64 e, .iface 33 (.int .i64 n)]

theorem Y32 (at' : Int) (e : Value) (w : World) (he : NotAgg e) : Calls Tryd.prog 25 #[.int .i64 at', e] w (RetP (fun ch w' => ∃ r, ch = bad1 r ∧ St noF w w' [BoxA r [.int .i64 at', e]]) [] fun _ _ => False) := by
  refine F25_calls at' e _ _ _ ?_
  unfold F25
  refine na_of he ?_
  exact St.nw (St.init0 w) fun b w1 s1 _ _ => ⟨b, rfl, s1⟩

/-- how reading ends with a panic -/
def Chn {α : Type} (F : Nat → Prop) (w : World) (rd : Nat) (bs : Sl) (m : Except Nat α) : List PanicEntry → Pr := fun ch w' => ∃ e r p, m = .error e ∧ ch = bad1 r ∧ St F w w' [BadA r e 260, RdA rd bs p]

theorem slc_from {w : World} {s : Sl} {l : List UInt8} {p : Nat} {k : Sl → Pr} (h : BS w s l) (hc : s.len ≤ s.cap) (hp : p ≤ l.length) (hk : ∀ r, BS w r (l.drop p) → r.len ≤ r.cap → k r w) : slc 1 s (some (p : Int)) none none k w := by
  have hl := h.len
  refine slc_lo (by omega) (by omega) ?_
  simp only [Int.toNat_natCast]
  refine hk _ ?_ (by dsimp only; omega)
  have e : l.drop p = (l.drop p).take (l.length - p) := by rw [List.take_of_length_le]; simp
  have := MS.sub (o := p) (n := l.length - p) (a := if s.cap = p then s.a else s.a.map (·.add (p * 1))) (c := s.cap - p) h.ms (by omega) ?_ ?_
  · rw [e, hl]
    exact this.bs
  · by_cases hcp : s.cap = p
    · exact .inr (by omega)
    · rw [if_neg hcp]; exact .inl rfl
  · intro _
    cases s.a with
    | none => left; split <;> rfl
    | some ad => right; split <;> rfl

theorem Y61 (rd : Nat) (bs : Sl) (l : List UInt8) (p : Nat) (most : Int) (w : World) (F : Nat → Prop) (h : Has [RdA rd bs p] w F) (hb : Rd w F bs l) (hc : bs.len ≤ bs.cap) (hp : p ≤ l.length) (hl : l.length ≤ 1000000) (hm : 0 ≤ most ∧ most ≤ 10000) :
    Calls Tryd.prog 45 #[.pointer (some ⟨rd, 0, none⟩), .int .i64 most] w (RetP (Chn F w rd bs (numP l most.toNat p)) [.c (.int .i64)] fun r w' => ∃ v q, numP l most.toNat p = .ok (v, q) ∧ r = (v : Int) ∧ St F w w' [RdA rd bs q]) := by
  refine F45_calls (some ⟨rd, 0, none⟩) most _ _ _ ?_
  unfold F45
  simp only [deref_some']
  rw [drw_def]
  have s := (St.init h).drew
  refine s.ld (i := 0) (s := .slice) (p := bs) rfl ?_
  refine s.ld (i := 1) (s := .int .i64) (p := (p : Int)) rfl ?_
  refine slc_from (hb.at s) hc hp fun t ht htc => ?_
  refine callFP_T (Y85 t (l.drop p) _ ht htc (by simp; omega)) ?_
  rintro _ _ ⟨rfl, rfl⟩
  dsimp only
  have hwm : IntKind.wrap .u64 most = most := by rw [wrap_u64m]; omega
  refine jn_of (fun _ W => ¬ ((takeM (l.drop p)).2.2 ≠ 0 ∨ most.toNat ≤ (takeM (l.drop p)).1) ∧ St F w W [RdA rd bs p]) ?_ ?_
  · refine jn_of (fun s' W => s' = decide ((takeM (l.drop p)).2.2 ≠ 0 ∨ most.toNat ≤ (takeM (l.drop p)).1) ∧ St F w W [RdA rd bs p]) ?_ ?_
    · refine br_of (fun h1 => ⟨?_, s⟩) fun h1 => ⟨?_, s⟩
      · rw [decide_eq_true (.inl (by simpa using h1))]
      · have h1 : (takeM (l.drop p)).2.2 = 0 := by simpa using h1
        rw [hwm, Bool.eq_iff_iff]
        simp only [decide_eq_true_eq, h1, ne_eq, not_true_eq_false, false_or, ge_iff_le]
        omega
    · rintro _ W ⟨rfl, s⟩
      refine br_of (fun hbad => ?_) fun hok => ?_
      · rw [decide_eq_true_eq] at hbad
        refine s.ld (i := 1) (s := .int .i64) (p := (p : Int)) rfl ?_
        refine callFP_of (Y32 p (.iface 33 (.int .i64 260)) W trivial) ?_ fun _ _ h => h.elim
        rintro ch w' ⟨r, rfl, k⟩
        exact ⟨p, r, p, by unfold numP; rw [if_pos hbad], rfl, s.call0 k⟩
      · exact ⟨by simpa using hok, s⟩
  · rintro ⟨⟩ W ⟨hok, s⟩
    have hnum : numP l most.toNat p = .ok ((takeM (l.drop p)).1, p + (takeM (l.drop p)).2.1) := by unfold numP; rw [if_neg hok]
    obtain ⟨hv, hq⟩ := numP_ok hnum hp
    refine s.ld (i := 1) (s := .int .i64) (p := (p : Int)) rfl ?_
    refine s.st (i := 1) (by simp) trivial fun w2 s2 => ?_
    rw [wrap_i64 ⟨by omega, by omega⟩] at s2
    refine ⟨_, _, hnum, ?_, s2⟩
    rw [wrap_i64 ⟨by omega, by omega⟩]

theorem Y58 (rd : Nat) (bs : Sl) (l : List UInt8) (p : Nat) (w : World) (F : Nat → Prop) (h : Has [RdA rd bs p] w F) (hb : Rd w F bs l) (hc : bs.len ≤ bs.cap) (hp : p ≤ l.length) (hl : l.length ≤ 1000000) :
    Calls Tryd.prog 42 #[.pointer (some ⟨rd, 0, none⟩)] w (RetP (Chn F w rd bs (numP l 8193 p)) [.c (.int .i64)] fun r w' => ∃ v q, numP l 8193 p = .ok (v, q) ∧ r = (v : Int) ∧ St F w w' [RdA rd bs q]) := by
  refine F42_calls (some ⟨rd, 0, none⟩) _ _ _ ?_
  unfold F42
  exact callFP_of (Y61 rd bs l p 8193 w F h hb hc hp hl (by omega)) (fun _ _ h => h) fun _ _ h => h

theorem Chn.of_num {α β : Type} {F : Nat → Prop} {w : World} {rd : Nat} {bs : Sl} {m : Except Nat α} {m' : Except Nat β} (hm : ∀ e, m = .error e → m' = .error e) {ch : List PanicEntry} {w' : World} (h : Chn F w rd bs m ch w') : Chn F w rd bs m' ch w' := by
  obtain ⟨e, r, p, h1, h2, h3⟩ := h
  exact ⟨e, r, p, hm e h1, h2, h3⟩

theorem Y59 (rd : Nat) (bs : Sl) (l : List UInt8) (p : Nat) (w : World) (F : Nat → Prop) (h : Has [RdA rd bs p] w F) (hb : Rd w F bs l) (hc : bs.len ≤ bs.cap) (hp : p ≤ l.length) (hl : l.length ≤ 1000000) :
    Calls Tryd.prog 43 #[.pointer (some ⟨rd, 0, none⟩)] w (RetP (Chn F w rd bs (bytP l p)) [.c .slice] fun r w' => ∃ x q, bytP l p = .ok (x, q) ∧ St F w w' [SlA 1 r (x.map ub), RdA rd bs q]) := by
  refine F43_calls (some ⟨rd, 0, none⟩) _ _ _ ?_
  unfold F43
  simp only [deref_some']
  have s := St.init h
  have hbl := hb.bs.len
  refine s.ld (i := 1) (s := .int .i64) (p := (p : Int)) rfl ?_
  refine callFP_of (Y58 rd bs l p w F h hb hc hp hl) (fun _ _ h => Chn.of_num (fun e he => by unfold bytP; rw [he]) h) ?_
  rintro _ w1 ⟨n, q, hn, rfl, s1⟩
  obtain ⟨hn1, hq⟩ := numP_ok hn hp
  refine jn_of (fun _ W => n ≤ l.length - q ∧ St F w W [RdA rd bs q]) ?_ ?_
  · rw [drw_def]
    have s2 := s1.drew
    refine s2.ld (i := 0) (s := .slice) (p := bs) rfl ?_
    refine s2.ld (i := 1) (s := .int .i64) (p := (q : Int)) rfl ?_
    rw [wrap_i64 ⟨by omega, by omega⟩]
    refine br_of (fun hlt => ?_) fun hge => ?_
    · simp only [decide_eq_true_eq] at hlt
      refine callFP_of (Y32 p (.iface 33 (.int .i64 260)) _ trivial) ?_ fun _ _ h => h.elim
      rintro ch w' ⟨r, rfl, k⟩
      refine ⟨p, r, q, ?_, rfl, s2.call0 k⟩
      unfold bytP
      rw [hn]
      dsimp only
      rw [if_pos (by omega)]
    · simp only [decide_eq_false_iff_not] at hge
      exact ⟨by omega, s2⟩
  · rintro ⟨⟩ W ⟨hn2, s2⟩
    have hbyt : bytP l p = .ok ((l.drop q).take n, q + n) := by
      unfold bytP
      rw [hn]
      dsimp only
      rw [if_neg (by omega)]
    refine s2.ld (i := 1) (s := .int .i64) (p := (q : Int)) rfl ?_
    refine s2.st (i := 1) (by simp) trivial fun w3 s3 => ?_
    rw [wrap_i64 ⟨by omega, by omega⟩] at s3
    have s3 : St F w w3 [RdA rd bs (q + n)] := s3
    rw [drw_def]
    have s4 := s3.drew
    refine s4.ld (i := 0) (s := .slice) (p := bs) rfl ?_
    refine s4.ld (i := 1) (s := .int .i64) (p := ((q + n : Nat) : Int)) rfl ?_
    refine s4.ld (i := 1) (s := .int .i64) (p := ((q + n : Nat) : Int)) rfl ?_
    rw [wrap_i64 ⟨by omega, by omega⟩]
    refine slc_bs (hb.at s4) hc (by omega) (by omega) (by omega) fun t ht htl => ?_
    have ex : (l.take ((q + n : Nat) : Int).toNat).drop (((q + n : Nat) : Int) - (n : Int)).toNat = (l.drop q).take n := by
      rw [show (((q + n : Nat) : Int)).toNat = q + n by omega, show (((q + n : Nat) : Int) - (n : Int)).toNat = q by omega, List.drop_take]
      congr 1
      omega
    rw [ex] at ht
    refine callFP_T (Y15 t _ _ ht (by simp; omega)) fun u w5 k5 => ?_
    exact ⟨_, _, hbyt, s4.call0 k5⟩
end Go.Proofs

/-! The program's reader: nodes. -/
set_option maxRecDepth 20000
namespace Go.Proofs
open Go.Eng

section
variable {F : Nat → Prop} {w W : World} {L : List HA} {rd : Nat} {bs : Sl} {l : List UInt8} {p : Nat} {α : Type} {M : Except Nat α}

theorem Chn.up {β : Type} {F' : Nat → Prop} {m : Except Nat β} (h5 : ∀ w' l', St F' W w' l' → St F w w' (l' ++ L)) (hm : ∀ e, m = .error e → M = .error e) {ch : List PanicEntry} {w' : World} (h : Chn F' W rd bs m ch w') : Chn F w rd bs M ch w' := by
  obtain ⟨e, r, p, h1, h2, h3⟩ := h
  exact ⟨e, r, p, hm e h1, h2, St.dropR (h5 w' _ h3)⟩

theorem cm_61 {most : Int} {k : Int → Pr} (st : St F w W (RdA rd bs p :: L)) (hb : Rd w F bs l) (hc : bs.len ≤ bs.cap) (hp : p ≤ l.length) (hl : l.length ≤ 1000000) (hm : 0 ≤ most ∧ most ≤ 10000)
    (hq : ∀ e, numP l most.toNat p = .error e → M = .error e) (hk : ∀ (v q : Nat) W', numP l most.toNat p = .ok (v, q) → St F w W' (RdA rd bs q :: L) → k v W') :
    callFP Tryd.prog (fun ch => Chn F w rd bs M ch) 45 [.pointer (some ⟨rd, 0, none⟩), .int .i64 most] [.c (.int .i64)] k W := by
  obtain ⟨F', H, _, h1, h2, h3, h4, h5⟩ := st.call1
  refine callFP_of (Y61 rd bs l p most W F' h1 (hb.go st h4) hc hp hl hm) (fun _ _ h => Chn.up h5 hq h) ?_
  rintro _ W' ⟨v, q, hv, rfl, s'⟩
  exact hk v q W' hv (h5 W' _ s')

theorem cm_58 {k : Int → Pr} (st : St F w W (RdA rd bs p :: L)) (hb : Rd w F bs l) (hc : bs.len ≤ bs.cap) (hp : p ≤ l.length) (hl : l.length ≤ 1000000)
    (hq : ∀ e, numP l 8193 p = .error e → M = .error e) (hk : ∀ (v q : Nat) W', numP l 8193 p = .ok (v, q) → St F w W' (RdA rd bs q :: L) → k v W') :
    callFP Tryd.prog (fun ch => Chn F w rd bs M ch) 42 [.pointer (some ⟨rd, 0, none⟩)] [.c (.int .i64)] k W := by
  obtain ⟨F', H, _, h1, h2, h3, h4, h5⟩ := st.call1
  refine callFP_of (Y58 rd bs l p W F' h1 (hb.go st h4) hc hp hl) (fun _ _ h => Chn.up h5 hq h) ?_
  rintro _ W' ⟨v, q, hv, rfl, s'⟩
  exact hk v q W' hv (h5 W' _ s')

theorem cm_59 {k : Sl → Pr} (st : St F w W (RdA rd bs p :: L)) (hb : Rd w F bs l) (hc : bs.len ≤ bs.cap) (hp : p ≤ l.length) (hl : l.length ≤ 1000000)
    (hq : ∀ e, bytP l p = .error e → M = .error e) (hk : ∀ x (q : Nat) (r : Sl) W', bytP l p = .ok (x, q) → St F w W' (RdA rd bs q :: SlA 1 r (x.map ub) :: L) → k r W') :
    callFP Tryd.prog (fun ch => Chn F w rd bs M ch) 43 [.pointer (some ⟨rd, 0, none⟩)] [.c .slice] k W := by
  obtain ⟨F', H, _, h1, h2, h3, h4, h5⟩ := st.call1
  refine callFP_of (Y59 rd bs l p W F' h1 (hb.go st h4) hc hp hl) (fun _ _ h => Chn.up h5 hq h) ?_
  rintro r W' ⟨x, q, hv, s'⟩
  exact hk x q r W' hv ((h5 W' _ s').bring 1)
end

theorem bytP_ok {l : List UInt8} {p q : Nat} {x : List UInt8} (h : bytP l p = .ok (x, q)) (hp : p ≤ l.length) : q ≤ l.length ∧ x.length ≤ 8192 := by
  unfold bytP at h
  split at h
  · cases h
  · rename_i n q' hn
    have := numP_ok hn hp
    split at h
    · cases h
    · simp only [Except.ok.injEq, Prod.mk.injEq] at h
      obtain ⟨rfl, rfl⟩ := h
      refine ⟨by omega, ?_⟩
      rw [List.length_take]
      omega
theorem ptrP_ok {l : List UInt8} {p q : Nat} {x : Int} (h : ptrP l p = .ok (x, q)) (hp : p ≤ l.length) : q ≤ l.length ∧ -1 ≤ x ∧ x ≤ 8191 := by
  unfold ptrP at h
  split at h
  · cases h
  · rename_i n q' hn
    have := numP_ok hn hp
    simp only [Except.ok.injEq, Prod.mk.injEq] at h
    omega

/-- data that was read, as it lies -/
structure DD (w : World) (F : Nat → Prop) (t : Sl) (dd : List (Sl × List UInt8)) : Prop where
  ms : MS (fun x : Sl × List UInt8 => slV x.1) w t dd
  no : dd ≠ [] → ∀ b, t.blk b → ¬ F b
  rd : ∀ x ∈ dd, Rd w F x.1 x.2
  len : ∀ x ∈ dd, x.2.length ≤ 8192

theorem Y60 (rd : Nat) (bs : Sl) (l : List UInt8) (p : Nat) (t : Sl) (dd : List (Sl × List UInt8)) (w : World) (F : Nat → Prop) (h : Has [RdA rd bs p] w F) (hb : Rd w F bs l) (hc : bs.len ≤ bs.cap) (hp : p ≤ l.length) (hl : l.length ≤ 1000000) (hd : DD w F t dd) (hdl : dd.length ≤ 8192) :
    Calls Tryd.prog 44 #[.pointer (some ⟨rd, 0, none⟩), slV t] w (RetP (Chn F w rd bs (nodeP l (dd.map (·.2)) p)) [.agg [.int .i64, .slice, .slice]] fun r w' => ∃ (y : NS) (q : Nat), nodeP l (dd.map (·.2)) p = .ok (y.m, q) ∧ q ≤ l.length ∧ (y.k, y.ps, y.ds) = r ∧ St F w w' [nodeA y, RdA rd bs q]) := by
  refine F44_calls (some ⟨rd, 0, none⟩) t _ _ _ ?_
  unfold F44
  simp only [deref_some']
  have htl := hd.ms.len
  refine St.nw (St.init h) fun r w1 s1 _ _ => ?_
  refine cm_61 (s1.bring 1) hb hc hp hl (by omega) (fun e he => by have he : numP l 4 p = _ := he; unfold nodeP; rw [he]) fun k p1 w2 hk s2 => ?_
  have hk : numP l 4 p = .ok (k, p1) := hk
  have hk' := numP_ok hk hp
  refine St.nw s2 fun r1 w3 s3 _ _ => s3.st (i := 0) (by simp) trivial fun w4 s4 => s4.st (i := 1) (by simp) trivial fun w5 s5 => s5.st (i := 2) (by simp) trivial fun w6 s6 => ?_
  have s6 : St F w w6 [BoxA r1 [.int .i64 k, .slice none 0 0, .slice none 0 0], RdA rd bs p1, BoxA r [.int .i64 0, .slice none 0 0, .slice none 0 0]] := s6
  refine cm_61 (most := t.len) (s6.bring 1) hb hc hk'.2 hl (by omega) (fun e he => by rw [htl, Int.toNat_natCast] at he; unfold nodeP; rw [hk]; dsimp only; rw [List.length_map, he]) fun d p2 w7 hdn s7 => ?_
  rw [htl, Int.toNat_natCast] at hdn
  have hdn' := numP_ok hdn hk'.2
  refine ⟨⟨by omega, by omega⟩, ?_⟩
  rw [Int.toNat_natCast]
  have hdg : dd[d]? = some dd[d] := by simp [hdn'.1]
  have hdm : dd[d] ∈ dd := List.getElem_mem hdn'.1
  have hdv : ((dd.map (·.2))[d]?).getD [] = dd[d].2 := by rw [List.getElem?_map, hdg]; rfl
  generalize dd[d] = x at hdg hdm hdv
  refine MS.at (g := fun x : Sl × List UInt8 => slV x.1) (c := .slice) (p := x.1) (x := x) (hd.ms.mod s7.modd fun ad ha hne => hd.no hne _ ⟨ad, ha, rfl⟩) hdg rfl ?_
  refine callFP_T (Y15 x.1 x.2 _ ((hd.rd x hdm).at s7) (by have := hd.len x hdm; omega)) fun v w8 k8 => ?_
  have s8 := s7.call0 k8
  refine (s8.bring 2).st (i := 2) (by simp) trivial fun w9 s9 => ?_
  have s9 : St F w w9 [BoxA r1 [.int .i64 k, .slice none 0 0, slV v], SlA 1 v (x.2.map ub), RdA rd bs p2, BoxA r [.int .i64 0, .slice none 0 0, .slice none 0 0]] := s9
  refine cm_58 (s9.bring 2) hb hc hdn'.2 hl (fun e he => by unfold nodeP; rw [hk]; dsimp only; rw [List.length_map, hdn]; dsimp only; rw [he]) fun m p3 w10 hm s10 => ?_
  have hm' := numP_ok hm hdn'.2
  have hnode : nodeP l (dd.map (·.2)) p = match repP (ptrP l) m p3 with
        | .error e => .error e
        | .ok (ps, p4) => .ok (⟨(k : Int), ps, x.2⟩, p4) := by
    unfold nodeP
    rw [hk]
    dsimp only
    rw [List.length_map, hdn]
    dsimp only
    rw [hm]
    dsimp only
    rw [hdv]
    all_goals cases repP (ptrP l) m p3 <;> rfl
  refine loop_of (fun z W => ∃ (i q : Nat) (u : Sl) (acc : List Int), z = (i : Int) ∧ i ≤ m ∧ q ≤ l.length ∧ acc.length = i ∧ repP (ptrP l) m p3 = pre acc (repP (ptrP l) (m - i) q) ∧
      St F w W [RdA rd bs q, SlA 1 u (acc.map iv), BoxA r1 [.int .i64 k, slV u, slV v], SlA 1 v (x.2.map ub), BoxA r [.int .i64 0, .slice none 0 0, .slice none 0 0]])
    (fun z _ => m - z.toNat) ⟨0, p3, ⟨none, 0, 0⟩, [], rfl, by omega, hm'.2, rfl, (pre_nil _).symm, (s10.nosl 1).bring 1⟩ ?_
  rintro _ W ⟨i, q, u, acc, rfl, hi, hql, hal, hrep, sW⟩
  refine br_of (fun hlt => ?_) fun hge => ?_
  · simp only [decide_eq_true_eq] at hlt
    have him : i < m := by omega
    have hqe : ∀ e, numP l 8193 q = .error e → nodeP l (dd.map (·.2)) p = .error e := by
      intro e he
      have h2 : ptrP l q = .error e := by unfold ptrP; rw [he]
      rw [hnode, hrep, repP_err him h2]
    refine jn_of (fun _ W' => ∃ (q' : Nat) (u' : Sl) (acc' : List Int), q' ≤ l.length ∧ acc'.length = i + 1 ∧ repP (ptrP l) m p3 = pre acc' (repP (ptrP l) (m - (i + 1)) q') ∧
      St F w W' [RdA rd bs q', SlA 1 u' (acc'.map iv), BoxA r1 [.int .i64 k, slV u', slV v], SlA 1 v (x.2.map ub), BoxA r [.int .i64 0, .slice none 0 0, .slice none 0 0]]) ?_ ?_
    · rw [drw_def]
      have s11 := sW.drew
      have fin : ∀ (z q' : Nat) W', numP l 8193 q = .ok (z, q') → St F w W' [RdA rd bs q', SlA 1 u (acc.map iv), BoxA r1 [.int .i64 k, slV u, slV v], SlA 1 v (x.2.map ub), BoxA r [.int .i64 0, .slice none 0 0, .slice none 0 0]] →
          (nw (.cells #[.int .i64 (IntKind.wrap .i64 ((z : Int) - 1))] 3) fun r2 => app 3 1 8 [.int .i64 0] u ⟨some ⟨r2, 0, none⟩, 1, 1⟩ fun t28 => Eng.st (Addr.add ⟨r1, 0, none⟩ 1) (.slice t28.a t28.len t28.cap) fun W' => ∃ (q' : Nat) (u' : Sl) (acc' : List Int), q' ≤ l.length ∧ acc'.length = i + 1 ∧ repP (ptrP l) m p3 = pre acc' (repP (ptrP l) (m - (i + 1)) q') ∧
      St F w W' [RdA rd bs q', SlA 1 u' (acc'.map iv), BoxA r1 [.int .i64 k, slV u', slV v], SlA 1 v (x.2.map ub), BoxA r [.int .i64 0, .slice none 0 0, .slice none 0 0]]) W' := by
        intro z q' W' hz s'
        have hz' := numP_ok hz hql
        have hpt : ptrP l q = .ok ((z : Int) - 1, q') := by unfold ptrP; rw [hz]
        rw [wrap_i64 ⟨by omega, by omega⟩]
        refine St.nw s' fun r2 w12 s12 _ _ => ?_
        refine app_iv (s12.sel [0, 2, 1, 3, 4, 5] 6) (by omega) fun u2 w13 s13 => ?_
        refine (s13.bring 3).st (i := 1) (by simp) trivial fun w14 s14 => ?_
        refine ⟨q', u2, acc ++ [(z : Int) - 1], hz'.2, by simp [hal], ?_, s14.sel [3, 1, 0, 4, 5] 6⟩
        rw [hrep, repP_next him hpt]
      refine ⟨?_, ?_⟩
      · refine (s11.bring 2).ld (i := 1) (s := .slice) (p := u) rfl ?_
        exact cm_58 s11 hb hc hql hl hqe fun z q' W' hz s' => fin z q' W' hz s'
      · refine cm_58 s11 hb hc hql hl hqe fun z q' W' hz s' => ?_
        refine (s'.bring 2).ld (i := 1) (s := .slice) (p := u) rfl ?_
        exact fin z q' W' hz s'
    · rintro ⟨⟩ W' ⟨q', u', acc', h1, h2, h3, s'⟩
      rw [succ_i64 (by omega)]
      exact ⟨⟨i + 1, q', u', acc', rfl, by omega, h1, h2, h3, s'⟩, by omega⟩
  · simp only [decide_eq_false_iff_not] at hge
    rw [repP_end (by omega)] at hrep
    rw [hrep] at hnode
    refine Box.ldA (l := [.int .i64, .slice, .slice]) (p := ((k : Int), u, v)) (sW.bring 2).box ?_
    refine (sW.bring 4).st (i := 0) (by simp) trivial fun w3 s3 => s3.st (i := 1) (by simp) trivial fun w4 s4 => s4.st (i := 2) (by simp) trivial fun w5 s5 => ?_
    refine Box.ldA (l := [.int .i64, .slice, .slice]) (p := ((k : Int), u, v)) s5.box ?_
    refine ⟨NS.mk k u acc v x.2, q, hnode, hql, rfl, ?_⟩
    exact St.mkbig (xs := [SlA 1 u (acc.map iv), SlA 1 v (x.2.map ub)]) (s5.sel [2, 4, 1] 5)
end Go.Proofs

/-! The program's reader: a graph. -/
set_option maxRecDepth 20000
namespace Go.Proofs
open Go.Eng

abbrev dA (x : Sl × List UInt8) : HA := SlA 1 x.1 (x.2.map ub)

theorem DD.own {w : World} {F H : Nat → Prop} {t : Sl} {dd : List (Sl × List UInt8)} {L : List HA} (h : Has (SlA 1 t (dd.map fun x => slV x.1) :: bigA (dd.map dA) :: L) w H) (hd : ∀ b, F b → ¬ H b) (hl : ∀ x ∈ dd, x.2.length ≤ 8192) : DD w F t dd := by
  obtain ⟨G1, hG1, hs1⟩ := Has.mem h (List.mem_cons_self ..)
  obtain ⟨G2, hG2, hs2⟩ := Has.mem h (List.mem_cons_of_mem _ (List.mem_cons_self ..))
  refine ⟨OwnS.ms hG1.1, fun _ b hb hF => hd b hF (hs1 b ((hG1.2 b).2 hb)), fun x hx => ?_, hl⟩
  have hm : dA x ∈ dd.map dA := List.mem_map.2 ⟨x, hx, rfl⟩
  obtain ⟨G3, hG3, hs3⟩ := Has.mem (show Has (dd.map dA) w G2 from hG2) hm
  exact ⟨hG3.1.bs, fun b _ hb hF => hd b hF (hs2 b (hs3 b ((hG3.2 b).2 hb)))⟩

theorem graphP_1 {l : List UInt8} {p e : Nat} (h : datasP l p = .error e) : graphP l p = .error e := by unfold graphP; rw [h]
theorem graphP_2 {l : List UInt8} {p e p1 : Nat} {ds : List (List UInt8)} (h : datasP l p = .ok (ds, p1)) (h2 : nodesP l ds p1 = .error e) : graphP l p = .error e := by unfold graphP; rw [h]; dsimp only; rw [h2]
theorem graphP_3 {l : List UInt8} {p e p1 p2 : Nat} {ds : List (List UInt8)} {ns : List GN} (h : datasP l p = .ok (ds, p1)) (h2 : nodesP l ds p1 = .ok (ns, p2)) (h3 : rootsP l p2 = .error e) : graphP l p = .error e := by
  unfold graphP; rw [h]; dsimp only; rw [h2]; dsimp only; rw [h3]
theorem graphP_4 {l : List UInt8} {p p1 p2 p3 : Nat} {ds : List (List UInt8)} {ns : List GN} {rs : List RM} (h : datasP l p = .ok (ds, p1)) (h2 : nodesP l ds p1 = .ok (ns, p2)) (h3 : rootsP l p2 = .ok (rs, p3)) :
    graphP l p = if p3 < l.length then .error p3 else .ok (⟨ns, rs⟩, ds) := by
  unfold graphP; rw [h]; dsimp only; rw [h2]; dsimp only; rw [h3]

section
variable {F : Nat → Prop} {w W : World} {L : List HA} {rd : Nat} {bs : Sl} {l : List UInt8} {p : Nat} {α : Type} {M : Except Nat α}
theorem cm_60 {t : Sl} {dd : List (Sl × List UInt8)} {k : Int × Sl × Sl → Pr} (st : St F w W (RdA rd bs p :: SlA 1 t (dd.map fun x => slV x.1) :: bigA (dd.map dA) :: L)) (hb : Rd w F bs l) (hc : bs.len ≤ bs.cap) (hp : p ≤ l.length) (hl : l.length ≤ 1000000)
    (hlen : ∀ x ∈ dd, x.2.length ≤ 8192) (hdl : dd.length ≤ 8192)
    (hq : ∀ e, nodeP l (dd.map (·.2)) p = .error e → M = .error e)
    (hk : ∀ (y : NS) (q : Nat) W', nodeP l (dd.map (·.2)) p = .ok (y.m, q) → q ≤ l.length → St F w W' (nodeA y :: RdA rd bs q :: SlA 1 t (dd.map fun x => slV x.1) :: bigA (dd.map dA) :: L) → k (y.k, y.ps, y.ds) W') :
    callFP Tryd.prog (fun ch => Chn F w rd bs M ch) 44 [.pointer (some ⟨rd, 0, none⟩), .slice t.a t.len t.cap] [.agg [.int .i64, .slice, .slice]] k W := by
  obtain ⟨F', H, _, h1, h2, h3, h4, h5⟩ := st.call1
  refine callFP_of (Y60 rd bs l p t dd W F' h1 (hb.go st h4) hc hp hl (DD.own h2 h3 hlen) hdl) (fun _ _ h => Chn.up h5 hq h) ?_
  rintro _ W' ⟨y, q, hv, hql, rfl, s'⟩
  exact hk y q W' hv hql (h5 W' _ s')
end

theorem rootP_err1 {l : List UInt8} {p e : Nat} (h : bytP l p = .error e) : rootP l p = .error e := by unfold rootP; rw [h]
theorem rootP_err2 {l : List UInt8} {p q e : Nat} {x : List UInt8} (h : bytP l p = .ok (x, q)) (h2 : numP l 8192 q = .error e) : rootP l p = .error e := by unfold rootP; rw [h]; dsimp only; rw [h2]
theorem rootP_ok {l : List UInt8} {p q r v : Nat} {x : List UInt8} (h : bytP l p = .ok (x, q)) (h2 : numP l 8192 q = .ok (v, r)) : rootP l p = .ok ((x, (v : Int)), r) := by unfold rootP; rw [h]; dsimp only; rw [h2]

/-- a root is appended -/
theorem append_root {F0 : Nat → Prop} {w0 w : World} {L : List HA} {t : Sl} {ys : List RM} {y : RM} {k : Sl → Pr} (h : St F0 w0 w (SlA 2 t (ys.flatMap rcellsM) :: L)) (hl : ys.length ≤ 1000000)
    (hk : ∀ r w', St F0 w0 w' (SlA 2 r ((ys ++ [y]).flatMap rcellsM) :: L) → k r w') :
    (nw (.cells #[.string (bytesOf y.1), .int .i64 y.2] 43) fun r => app 43 2 24 [.string (⟨#[]⟩ : ByteArray), .int .i64 0] t ⟨some ⟨r, 0, none⟩, 1, 1⟩ k) w := by
  refine St.nw h fun r w1 s1 _ _ => ?_
  have hlen := (s1.bring 1).sl.len
  rw [rfl2] at hlen
  refine (s1.bring 1).app (new := rcellsM y) (fun _ => rfl) (fun h => by cases h) (readsAt_row.2 s1.box.row) (by simp [NotAgg]) rfl (by decide) (by dsimp only; omega) fun r2 w2 s2 _ => ?_
  refine hk r2 w2 ?_
  have e : (ys ++ [y]).flatMap rcellsM = ys.flatMap rcellsM ++ rcellsM y := by rw [List.flatMap_append]; simp
  rw [e]
  have s3 : St F0 w0 w2 (SlA 2 r2 (ys.flatMap rcellsM ++ rcellsM y) :: BoxA r _ :: L) := s2
  exact (s3.bring 1).drop

theorem Y34 (rd : Nat) (bs : Sl) (l : List UInt8) (p : Nat) (w : World) (F : Nat → Prop) (h : Has [RdA rd bs p] w F) (hb : Rd w F bs l) (hc : bs.len ≤ bs.cap) (hp : p ≤ l.length) (hl : l.length ≤ 1000000) :
    Calls Tryd.prog 27 #[.pointer (some ⟨rd, 0, none⟩)] w (RetP (Chn F w rd bs (graphP l p)) [.agg [.slice, .slice], .c .slice] fun r w' => ∃ (g : GS) (dd : List (Sl × List UInt8)) (t : Sl), graphP l p = .ok (g.m, dd.map (·.2)) ∧ ((g.gn, g.gr), t) = r ∧ St F w w' [GAx g, SlA 1 t (dd.map fun x => slV x.1), bigA (dd.map dA)]) := by
  refine F27_calls (some ⟨rd, 0, none⟩) _ _ _ ?_
  unfold F27
  simp only [deref_some']
  have hbl := hb.bs.len
  refine St.nw (St.init h) fun r w1 s1 _ _ => St.nw s1 fun r1 w2 s2 _ _ => ?_
  have s2 : St F w w2 [BoxA r1 [.slice none 0 0, .slice none 0 0], BoxA r [.slice none 0 0, .slice none 0 0], RdA rd bs p] := s2
  refine cm_58 (s2.bring 2) hb hc hp hl (fun e he => graphP_1 (by unfold datasP; rw [he])) fun m p1 w3 hm s3 => ?_
  have hm' := numP_ok hm hp
  have hdat : datasP l p = repP (bytP l) m p1 := by unfold datasP; rw [hm]
  -- the data
  refine loop_of (fun z W => ∃ (i q : Nat) (t : Sl) (dd : List (Sl × List UInt8)), z = (t, (i : Int)) ∧ i ≤ m ∧ q ≤ l.length ∧ dd.length = i ∧ (∀ x ∈ dd, x.2.length ≤ 8192) ∧ datasP l p = pre (dd.map (·.2)) (repP (bytP l) (m - i) q) ∧
      St F w W [RdA rd bs q, SlA 1 t (dd.map fun x => slV x.1), bigA (dd.map dA), BoxA r1 [.slice none 0 0, .slice none 0 0], BoxA r [.slice none 0 0, .slice none 0 0]])
    (fun z _ => m - z.2.toNat) ⟨0, p1, ⟨none, 0, 0⟩, [], rfl, by omega, hm'.2, rfl, (by simp), by rw [hdat]; exact (pre_nil _).symm, (s3.nobig.nosl 1).sel [2, 0, 1, 3, 4] 5⟩ ?_
  rintro _ W ⟨i, q, t, dd, rfl, hi, hql, hdl, hdd, hrep, sW⟩
  dsimp only
  refine br_of (fun hlt => ?_) fun hge => ?_
  · simp only [decide_eq_true_eq] at hlt
    have him : i < m := by omega
    refine cm_59 sW hb hc hql hl (fun e he => graphP_1 (by rw [hrep, repP_err him he])) fun x q' u w4 hx s4 => ?_
    have hx' := bytP_ok hx hql
    refine St.nw s4 fun r2 w5 s5 _ _ => ?_
    have htl := slA_len1 (s5.bring 3).sl
    rw [List.length_map] at htl
    refine (s5.bring 3).app (new := [slV u]) (fun _ => rfl) (fun h => by cases h) (readsAt_row.2 s5.box.row) (by simp [NotAgg]) rfl (by decide) (by dsimp only; omega) fun t2 w6 s6 _ => ?_
    have s6 : St F w w6 [SlA 1 t2 ((dd.map fun x => slV x.1) ++ [slV u]), BoxA r2 [slV u], RdA rd bs q', dA (u, x), bigA (dd.map dA), BoxA r1 [.slice none 0 0, .slice none 0 0], BoxA r [.slice none 0 0, .slice none 0 0]] := s6
    have s7 : St F w w6 (bigA (dd.map dA ++ [dA (u, x)]) :: _) := (s6.sel [3, 4, 0, 2, 5, 6] 7).push
    rw [succ_i64 (by omega)]
    refine ⟨⟨i + 1, q', t2, dd ++ [(u, x)], rfl, by omega, hx'.1, by simp [hdl], fun z hz => ?_, ?_, ?_⟩, by omega⟩
    · rcases List.mem_append.1 hz with hz | hz
      · exact hdd z hz
      · rw [List.mem_singleton] at hz; subst hz; exact hx'.2
    · rw [hrep, repP_next him hx, List.map_append]; rfl
    · rw [List.map_append, List.map_append]
      exact s7.sel [2, 1, 0, 3, 4] 5
  simp only [decide_eq_false_iff_not] at hge
  rw [repP_end (by omega)] at hrep
  refine cm_58 sW hb hc hql hl (fun e he => graphP_2 hrep (by unfold nodesP; rw [he])) fun m2 p2 w4 hm2 s4 => ?_
  have hm2' := numP_ok hm2 hql
  have hnod : nodesP l (dd.map (·.2)) q = repP (nodeP l (dd.map (·.2))) m2 p2 := by unfold nodesP; rw [hm2]
  have hddl : dd.length ≤ 8192 := by omega
  -- the nodes
  refine loop_of (fun z W => ∃ (j q2 : Nat) (tn : Sl) (ys : List NS), z = (j : Int) ∧ j ≤ m2 ∧ q2 ≤ l.length ∧ ys.length = j ∧ nodesP l (dd.map (·.2)) q = pre (ys.map NS.m) (repP (nodeP l (dd.map (·.2))) (m2 - j) q2) ∧
      St F w W [RdA rd bs q2, SlA 1 t (dd.map fun x => slV x.1), bigA (dd.map dA), SlA 3 tn (ys.flatMap ncells), bigA (ys.map nodeA), BoxA r1 [slV tn, .slice none 0 0], BoxA r [.slice none 0 0, .slice none 0 0]])
    (fun z _ => m2 - z.toNat) ⟨0, p2, ⟨none, 0, 0⟩, [], rfl, by omega, hm2'.2, rfl, by rw [hnod]; exact (pre_nil _).symm, (s4.nobig.nosl 3).sel [2, 3, 4, 0, 1, 5, 6] 7⟩ ?_
  rintro _ W2 ⟨j, q2, tn, ys, rfl, hj, hq2, hyl, hrep2, sW2⟩
  refine br_of (fun hlt => ?_) fun hge2 => ?_
  · simp only [decide_eq_true_eq] at hlt
    have hjm : j < m2 := by omega
    refine jn_of (fun _ W' => ∃ (q3 : Nat) (tn' : Sl) (ys' : List NS), q3 ≤ l.length ∧ ys'.length = j + 1 ∧ nodesP l (dd.map (·.2)) q = pre (ys'.map NS.m) (repP (nodeP l (dd.map (·.2))) (m2 - (j + 1)) q3) ∧
      St F w W' [RdA rd bs q3, SlA 1 t (dd.map fun x => slV x.1), bigA (dd.map dA), SlA 3 tn' (ys'.flatMap ncells), bigA (ys'.map nodeA), BoxA r1 [slV tn', .slice none 0 0], BoxA r [.slice none 0 0, .slice none 0 0]]) ?_ ?_
    rotate_left
    · rintro ⟨⟩ W' ⟨q3, tn', ys', h1, h2, h3, s'⟩
      rw [succ_i64 (by omega)]
      exact ⟨⟨j + 1, q3, tn', ys', rfl, by omega, h1, h2, h3, s'⟩, by omega⟩
    have hqe : ∀ e, nodeP l (dd.map (·.2)) q2 = .error e → graphP l p = .error e := fun e he => graphP_2 hrep (by rw [hrep2, repP_err hjm he])
    have fin : ∀ (y : NS) (q3 : Nat) W', nodeP l (dd.map (·.2)) q2 = .ok (y.m, q3) → q3 ≤ l.length → St F w W' [nodeA y, RdA rd bs q3, SlA 1 t (dd.map fun x => slV x.1), bigA (dd.map dA), SlA 3 tn (ys.flatMap ncells), bigA (ys.map nodeA), BoxA r1 [slV tn, .slice none 0 0], BoxA r [.slice none 0 0, .slice none 0 0]] →
        (nw (.cells #[.int .i64 y.k, .slice y.ps.a y.ps.len y.ps.cap, .slice y.ds.a y.ds.len y.ds.cap] 38) fun r3 => app 38 3 56 [.int .i64 0, .slice none 0 0, .slice none 0 0] tn ⟨some ⟨r3, 0, none⟩, 1, 1⟩ fun t27 => Eng.st (Addr.add ⟨r1, 0, none⟩ 0) (.slice t27.a t27.len t27.cap) fun W' => ∃ (q3 : Nat) (tn' : Sl) (ys' : List NS), q3 ≤ l.length ∧ ys'.length = j + 1 ∧ nodesP l (dd.map (·.2)) q = pre (ys'.map NS.m) (repP (nodeP l (dd.map (·.2))) (m2 - (j + 1)) q3) ∧
      St F w W' [RdA rd bs q3, SlA 1 t (dd.map fun x => slV x.1), bigA (dd.map dA), SlA 3 tn' (ys'.flatMap ncells), bigA (ys'.map nodeA), BoxA r1 [slV tn', .slice none 0 0], BoxA r [.slice none 0 0, .slice none 0 0]]) W' := by
      intro y q3 W' hy hq3 s'
      refine append_node (y := y) (s'.sel [0, 4, 5, 1, 2, 3, 6, 7] 8) (by omega) fun tn2 w5 s5 => ?_
      refine (s5.bring 5).st (i := 0) (by simp) trivial fun w6 s6 => ?_
      refine ⟨q3, tn2, ys ++ [y], hq3, by simp [hyl], ?_, s6.sel [3, 4, 5, 1, 2, 0, 6] 7⟩
      rw [hrep2, repP_next hjm hy, List.map_append]
      rfl
    rw [drw_def]
    have s5 := sW2.drew
    refine ⟨?_, ?_⟩
    · refine (s5.bring 5).ld (i := 0) (s := .slice) (p := tn) rfl ?_
      exact cm_60 s5 hb hc hq2 hl hdd hddl hqe fun y q3 W' hy hq3 s' => fin y q3 W' hy hq3 s'
    · refine cm_60 s5 hb hc hq2 hl hdd hddl hqe fun y q3 W' hy hq3 s' => ?_
      refine (s'.bring 6).ld (i := 0) (s := .slice) (p := tn) rfl ?_
      exact fin y q3 W' hy hq3 s'
  simp only [decide_eq_false_iff_not] at hge2
  rw [repP_end (by omega)] at hrep2
  refine cm_58 sW2 hb hc hq2 hl (fun e he => graphP_3 hrep hrep2 (by unfold rootsP; rw [he])) fun m3 p3 w5 hm3 s5 => ?_
  have hm3' := numP_ok hm3 hq2
  have hroo : rootsP l q2 = repP (rootP l) m3 p3 := by unfold rootsP; rw [hm3]
  -- the roots
  refine loop_of (fun z W => ∃ (j q3 : Nat) (tr : Sl) (rs : List RM), z = (j : Int) ∧ j ≤ m3 ∧ q3 ≤ l.length ∧ rs.length = j ∧ rootsP l q2 = pre rs (repP (rootP l) (m3 - j) q3) ∧
      St F w W [RdA rd bs q3, SlA 1 t (dd.map fun x => slV x.1), bigA (dd.map dA), SlA 3 tn (ys.flatMap ncells), bigA (ys.map nodeA), SlA 2 tr (rs.flatMap rcellsM), BoxA r1 [slV tn, slV tr], BoxA r [.slice none 0 0, .slice none 0 0]])
    (fun z _ => m3 - z.toNat) ⟨0, p3, ⟨none, 0, 0⟩, [], rfl, by omega, hm3'.2, rfl, by rw [hroo]; exact (pre_nil _).symm, (s5.nosl 2).sel [1, 2, 3, 4, 5, 0, 6, 7] 8⟩ ?_
  rintro _ W3 ⟨j3, q3, tr, rs, rfl, hj3, hq3, hrl, hrep3, sW3⟩
  refine br_of (fun hlt => ?_) fun hge3 => ?_
  · simp only [decide_eq_true_eq] at hlt
    have hjm : j3 < m3 := by omega
    refine jn_of (fun _ W' => ∃ (q4 : Nat) (tr' : Sl) (rs' : List RM), q4 ≤ l.length ∧ rs'.length = j3 + 1 ∧ rootsP l q2 = pre rs' (repP (rootP l) (m3 - (j3 + 1)) q4) ∧
      St F w W' [RdA rd bs q4, SlA 1 t (dd.map fun x => slV x.1), bigA (dd.map dA), SlA 3 tn (ys.flatMap ncells), bigA (ys.map nodeA), SlA 2 tr' (rs'.flatMap rcellsM), BoxA r1 [slV tn, slV tr'], BoxA r [.slice none 0 0, .slice none 0 0]]) ?_ ?_
    rotate_left
    · rintro ⟨⟩ W' ⟨q4, tr', rs', h1, h2, h3, s'⟩
      rw [succ_i64 (by omega)]
      exact ⟨⟨j3 + 1, q4, tr', rs', rfl, by omega, h1, h2, h3, s'⟩, by omega⟩
    refine cm_59 sW3 hb hc hq3 hl (fun e he => graphP_3 hrep hrep2 (by rw [hrep3, repP_err hjm (rootP_err1 he)])) fun x q4 u w6 hx s6 => ?_
    have hx' := bytP_ok hx hq3
    refine b2s_of (s6.bring 1).sl.bs ?_
    rw [drw_def]
    have s7 : St F w w6.drew [RdA rd bs q4, SlA 1 t (dd.map fun x => slV x.1), bigA (dd.map dA), SlA 3 tn (ys.flatMap ncells), bigA (ys.map nodeA), SlA 2 tr (rs.flatMap rcellsM), BoxA r1 [slV tn, slV tr], BoxA r [.slice none 0 0, .slice none 0 0]] := (s6.sel [0, 2, 3, 4, 5, 6, 7, 8] 9).drew
    have hqe : ∀ e, numP l 8192 q4 = .error e → graphP l p = .error e := fun e he => graphP_3 hrep hrep2 (by rw [hrep3, repP_err hjm (rootP_err2 hx he)])
    have fin : ∀ (v q5 : Nat) W', numP l 8192 q4 = .ok (v, q5) → St F w W' [RdA rd bs q5, SlA 1 t (dd.map fun x => slV x.1), bigA (dd.map dA), SlA 3 tn (ys.flatMap ncells), bigA (ys.map nodeA), SlA 2 tr (rs.flatMap rcellsM), BoxA r1 [slV tn, slV tr], BoxA r [.slice none 0 0, .slice none 0 0]] →
        (nw (.cells #[.string (bytesOf x), .int .i64 (v : Int)] 43) fun r5 => app 43 2 24 [.string (⟨#[]⟩ : ByteArray), .int .i64 0] tr ⟨some ⟨r5, 0, none⟩, 1, 1⟩ fun t44 => Eng.st (Addr.add ⟨r1, 0, none⟩ 1) (.slice t44.a t44.len t44.cap) fun W' => ∃ (q4 : Nat) (tr' : Sl) (rs' : List RM), q4 ≤ l.length ∧ rs'.length = j3 + 1 ∧ rootsP l q2 = pre rs' (repP (rootP l) (m3 - (j3 + 1)) q4) ∧
      St F w W' [RdA rd bs q4, SlA 1 t (dd.map fun x => slV x.1), bigA (dd.map dA), SlA 3 tn (ys.flatMap ncells), bigA (ys.map nodeA), SlA 2 tr' (rs'.flatMap rcellsM), BoxA r1 [slV tn, slV tr'], BoxA r [.slice none 0 0, .slice none 0 0]]) W' := by
      intro v q5 W' hv s'
      have hv' := numP_ok hv hx'.1
      refine append_root (y := (x, (v : Int))) (s'.bring 5) (by omega) fun tr2 w8 s8 => ?_
      refine (s8.bring 6).st (i := 1) (by simp) trivial fun w9 s9 => ?_
      refine ⟨q5, tr2, rs ++ [(x, (v : Int))], hv'.2, by simp [hrl], ?_, s9.sel [2, 3, 4, 5, 6, 1, 0, 7] 8⟩
      rw [hrep3, repP_next hjm (rootP_ok hx hv)]
    refine ⟨?_, ?_⟩
    · refine (s7.bring 6).ld (i := 1) (s := .slice) (p := tr) rfl ?_
      exact cm_61 (most := 8192) s7 hb hc hx'.1 hl (by omega) hqe fun v q5 W' hv s' => fin v q5 W' hv s'
    · refine cm_61 (most := 8192) s7 hb hc hx'.1 hl (by omega) hqe fun v q5 W' hv s' => ?_
      refine (s'.bring 6).ld (i := 1) (s := .slice) (p := tr) rfl ?_
      exact fin v q5 W' hv s'
  simp only [decide_eq_false_iff_not] at hge3
  rw [repP_end (by omega)] at hrep3
  have hG := graphP_4 hrep hrep2 hrep3
  refine jn_of (fun _ W' => ¬ q3 < l.length ∧ St F w W' [RdA rd bs q3, SlA 1 t (dd.map fun x => slV x.1), bigA (dd.map dA), SlA 3 tn (ys.flatMap ncells), bigA (ys.map nodeA), SlA 2 tr (rs.flatMap rcellsM), BoxA r1 [slV tn, slV tr], BoxA r [.slice none 0 0, .slice none 0 0]]) ?_ ?_
  · rw [drw_def]
    have s8 := sW3.drew
    refine s8.ld (i := 1) (s := .int .i64) (p := (q3 : Int)) rfl ?_
    refine s8.ld (i := 0) (s := .slice) (p := bs) rfl ?_
    refine br_of (fun hlt => ?_) fun hge => ?_
    · simp only [decide_eq_true_eq] at hlt
      refine s8.ld (i := 1) (s := .int .i64) (p := (q3 : Int)) rfl ?_
      refine callFP_of (Y32 q3 (.iface 33 (.int .i64 260)) _ trivial) ?_ fun _ _ h => h.elim
      rintro ch w' ⟨rb, rfl, k⟩
      refine ⟨q3, rb, q3, by rw [hG, if_pos (by omega)], rfl, ?_⟩
      exact (s8.call0 k).sel [0, 1] 9
    · simp only [decide_eq_false_iff_not] at hge
      exact ⟨by omega, s8⟩
  · rintro ⟨⟩ W' ⟨hge, s8⟩
    rw [if_neg hge] at hG
    refine Box.ldA (l := [.slice, .slice]) (p := (tn, tr)) (s8.bring 6).box ?_
    refine (s8.bring 7).st (i := 0) (by simp) trivial fun w3 s3 => s3.st (i := 1) (by simp) trivial fun w4 s4 => ?_
    refine Box.ldA (l := [.slice, .slice]) (p := (tn, tr)) s4.box ?_
    refine ⟨⟨tn, tr, ys, rs⟩, dd, t, hG, rfl, ?_⟩
    exact GAx.mk (s4.sel [4, 5, 6, 2, 3] 8)
end Go.Proofs

/-! A deferred call that recovers first. -/
set_option maxRecDepth 20000
namespace Go.Eng
open Go

section
variable {P : Program}

def recOp (d : Nat) (ty : TypeId) (pos : String) : Oper := { dst := some d, op := .call { callee := .builtin .recover, args := #[], argTypes := #[] }, type := ty, pos := pos, after := #[], guard := none }

def restOf (fn : Func) : Code := match fn.body with
  | some (.seq _ r) => r
  | _ => .skip

/-- the way behind the recovery, printed -/
def compileR (P : Program) (fn : Func) (an : An) (args : List Value) (d : Nat) (v : Value) (rest : Code) (Q : Pr) : Pr :=
  cC P none false an rest (Env.put (env0 args fn.ntmps) (some d) (.val v)) ⟨fin0 P fn [] fun _ => Q, fin0 P fn [] fun _ => Q, [], false, []⟩

theorem deferredR {f : FuncId} {fn : Func} {an : An} {args : List Value} {d id : Nat} {ty : TypeId} {pos : String} {rest : Code} {Q : Pr} {u : FrameMode} {v : Value} {w : World} (hf : P.funcs[f]? = some fn)
    (hb : fn.body = some (.seq (.region id #[recOp d ty pos] false) rest)) (hu : (u = .returning ∧ v = .nilIface) ∨ u = .panicking [⟨v, false, false⟩]) (h : compileR P fn an args d v rest Q w) : callD P u f args Q w := by
  refine callsDIn_of_wpSIn hf hb trivial ?_
  intro c₀ cs hm
  obtain ⟨u', hu', hset⟩ : ∃ u', (∃ cs', cs' = { c₀ with mode := u' } :: cs ∧ ((recoverD (c₀ :: cs) = none ∧ v = .nilIface ∧ cs' = c₀ :: cs) ∨ recoverD (c₀ :: cs) = some (v, cs'))) ∧ settle u' = .returning := by
    rcases hu with ⟨rfl, rfl⟩ | rfl
    · refine ⟨.returning, ⟨_, rfl, .inl ⟨by simp [recoverD, hm], rfl, ?_⟩⟩, rfl⟩
      rw [← hm]
    · exact ⟨.panicking [⟨v, true, false⟩], ⟨_, rfl, .inr (by simp [recoverD, hm])⟩, rfl⟩
  obtain ⟨cs', hcs', hrec⟩ := hu'
  have hag : Ag (env0 args fn.ntmps) { tmps := args.toArray ++ Array.replicate (fn.ntmps - args.toArray.size) undef, defers := [] } := env0_ag args fn.ntmps
  generalize ({ tmps := args.toArray ++ Array.replicate (fn.ntmps - args.toArray.size) undef, defers := [] } : Act) = a0 at hag ⊢
  have hag1 : Ag (Env.put (env0 args fn.ntmps) (some d) (.val v)) (a0.put (some d) v) := hag.put (some d) (fun u hu => by simpa [EV.v?] using hu.symm)
  refine wpSIn_seq (wpSIn_region ?_)
  have key : ∀ cs1, cs1 = cs' → rest.wpSIn (wf none) 0 P (bodyPostS P fn c₀ cs fun e u' w' => (∃ v, e = .returned v) ∧ settle u' = .returning ∧ Q w') (a0.put (some d) v) cs1 w := by
    rintro _ rfl
    let Q' : Exit → Act → World → Prop := fun ex a w => match ex with
      | .normal => a.defers = [] ∧ ∃ v, (results fn a.tmps).run P w = .ok v w ∧ Q w
      | .ret => a.defers = [] ∧ ∃ v, (results fn a.tmps).run P w = .ok v w ∧ Q w
      | _ => False
    have key : ∀ e' a' w', Ag e' a' → fin0 P fn [] (fun _ => Q) e' w' → a'.defers = [] ∧ ∃ v, (results fn a'.tmps).run P w' = .ok v w' ∧ Q w' := by
      intro e' a' w' he' h
      obtain ⟨h1, h⟩ := nilDs_sound h
      obtain ⟨h2, h⟩ := nilDs_sound h
      refine ⟨by rw [he'.defers, h1, h2]; rfl, ?_⟩
      have := rets_leave (R := fun e w => RetT [] (fun _ => Q) e w) (fun _ _ h => h) he' h
      obtain ⟨v, hv, ⟨_, _, hq⟩⟩ := this
      exact ⟨v, hv, hq⟩
    refine wpSIn_of_wpIn rfl ?_
    refine wpIn_mono (cC_sound (dk := false) an none 0 none rest Q' _ _ w _ (fun h => by cases h) (fun _ _ _ _ _ _ h => False.elim h) hag1 h (fun _ => rfl) ?_ ?_ ?_ (fun _ _ _ _ _ _ h => h.elim) (fun _ _ _ _ _ _ _ h => h.elim)) ?_
    · exact fun e' a' w' he' _ h => key _ _ _ he' h
    · exact fun e' a' w' he' h => key _ _ _ he' h
    · exact fun i e' a' w' _ _ h => h.elim
    · intro ex a w h
      cases ex with
      | normal => exact ⟨h.1, u', hcs', h.2.imp fun v hv => ⟨hv.1, ⟨v, rfl⟩, hset, hv.2⟩⟩
      | ret => exact ⟨h.1, u', hcs', h.2.imp fun v hv => ⟨hv.1, ⟨v, rfl⟩, hset, hv.2⟩⟩
      | _ => exact h.elim
  have hr : List.range (#[recOp d ty pos]).size = [0] := rfl
  have hops : (#[recOp d ty pos] : Array Oper)[0]? = some (recOp d ty pos) := rfl
  have he : (execOp a0.eval (recOp d ty pos)).run P w = .ok .recover w := by rfl
  have hw : Region.wanted (recOp d ty pos) (yielded #[recOp d ty pos] a0.tmps) = true := rfl
  rw [hr]
  unfold wpOpsSIn
  rw [hops]
  dsimp only
  refine ⟨fun _ _ => trivial, ?_⟩
  rw [if_pos hw, he]
  dsimp only
  rcases hrec with ⟨h1, rfl, h2⟩ | h1
  · rw [h1]
    exact key _ h2.symm
  · rw [h1]
    exact key _ rfl
end
end Go.Eng

set_option maxRecDepth 100000
namespace Go.Proofs
open Go.Eng

/-! attic/archive.caught -/
def an24 : An := (.bl (.sq .z (.br .z (.sq .z (.br (.sq .z .z) (.sq .z .z))))))

def F24 (p0 : Option Addr) (p1 : Option Addr) (v : Value) (Q : Unit → Pr) : Pr :=
  owe (isI v) <|
  br (isNilI v) (
  Q ()) (
  asT 97 (.agg [.ptr]) (.agg #[(.pointer none)]) v true fun (t10 : Option Addr) t10ok =>
  br t10ok (
  nw (.cells #[(.pointer none)] 97) fun r =>
  deref (some ⟨r, 0, none⟩) fun a =>
  st (a.add 0) (.pointer t10) <|
  drw <|
  deref (some ⟨r, 0, none⟩) fun a_1 =>
  deref p0 fun a_2 =>
  both (
  deref (some (a_1.add 0)) fun a_3 =>
  ldC .ptr a_3 fun (t17 : Option Addr) =>
  deref (some a_2) fun a_4 =>
  st (a_4.add 0) (.slice none 0 0) <|
  st (a_4.add 1) (.slice none 0 0) <|
  deref p1 fun a_5 =>
  deref (some a_5) fun a_6 =>
  st a_6 (.iface 83 (.pointer t17)) <|
  Q ()) (
  deref (some a_2) fun a_7 =>
  st (a_7.add 0) (.slice none 0 0) <|
  st (a_7.add 1) (.slice none 0 0) <|
  deref (some (a_1.add 0)) fun a_8 =>
  ldC .ptr a_8 fun (t17_1 : Option Addr) =>
  deref p1 fun a_9 =>
  deref (some a_9) fun a_10 =>
  st a_10 (.iface 83 (.pointer t17_1)) <|
  Q ())) (
  fls))

theorem F24_deferred (p0 : Option Addr) (p1 : Option Addr) (v : Value) (u : FrameMode) (Q : Unit → Pr) (w : World) (hu : (u = .returning ∧ v = .nilIface) ∨ u = .panicking [⟨v, false, false⟩]) (h : F24 p0 p1 v Q w) : callD Tryd.prog u 24 [(.pointer p0), (.pointer p1)] (Q ()) w :=
  deferredR (an := an24) (d := 7) (id := 0) (ty := 20) (pos := "archive.go:148") (rest := restOf Tryd.f24) Tryd.func24 (by kernel_rfl) hu (by
    have e : compileR Tryd.prog Tryd.f24 an24 [(.pointer p0), (.pointer p1)] 7 v (restOf Tryd.f24) (Q ()) = F24 p0 p1 v Q := by kernel_rfl
    rw [e]; exact h)


end Go.Proofs

/-! Unpack: parts. -/
set_option maxRecDepth 20000
namespace Go.Proofs
open Go.Eng

noncomputable def unpackM (b : List UInt8) : Except (Nat × Int) GG :=
  if b.length < 12 ∨ b.take 8 ≠ magicL then .error (0, 260)
  else if numB 4 (sumM (b.take (b.length - 4))) ≠ b.drop (b.length - 4) then .error (b.length - 4, 11)
  else match graphP (b.take (b.length - 4)) 8 with
    | .error p => .error (p, 260)
    | .ok (G, ds) => if okG G = true ∧ canM G = G ∧ dataL G = ds then .ok G else .error (b.length - 4, 180)

theorem repP_len {α : Type} {f : Nat → Got α} : ∀ {n p q : Nat} {xs : List α}, repP f n p = .ok (xs, q) → xs.length = n
  | 0, p, q, xs, h => by
    simp only [repP, Except.ok.injEq, Prod.mk.injEq] at h
    rw [← h.1]; rfl
  | n + 1, p, q, xs, h => by
    rw [repP] at h
    split at h
    · cases h
    · rename_i x q1 _
      cases hr : repP f n q1 with
      | error e => rw [hr] at h; cases h
      | ok y =>
        obtain ⟨ys, q2⟩ := y
        rw [hr] at h
        simp only [pre, Except.ok.injEq, Prod.mk.injEq] at h
        rw [← h.1]
        have := repP_len hr
        simp [this]
theorem repP_all {α : Type} {f : Nat → Got α} {M : Nat} {R : α → Prop} (hf : ∀ p x q, p ≤ M → f p = .ok (x, q) → q ≤ M ∧ R x) : ∀ {n p q : Nat} {xs : List α}, p ≤ M → repP f n p = .ok (xs, q) → q ≤ M ∧ ∀ x ∈ xs, R x
  | 0, p, q, xs, hp, h => by
    simp only [repP, Except.ok.injEq, Prod.mk.injEq] at h
    obtain ⟨rfl, rfl⟩ := h
    exact ⟨hp, by simp⟩
  | n + 1, p, q, xs, hp, h => by
    rw [repP] at h
    split at h
    · cases h
    · rename_i x q1 hx
      have h1 := hf p x q1 hp hx
      cases hr : repP f n q1 with
      | error e => rw [hr] at h; cases h
      | ok y =>
        obtain ⟨ys, q2⟩ := y
        rw [hr] at h
        simp only [pre, Except.ok.injEq, Prod.mk.injEq] at h
        obtain ⟨rfl, rfl⟩ := h
        have h2 := repP_all hf h1.1 hr
        refine ⟨h2.1, fun z hz => ?_⟩
        rcases List.mem_append.1 hz with hz | hz
        · rw [List.mem_singleton] at hz; subst hz; exact h1.2
        · exact h2.2 z hz

theorem nodeP_ok {l : List UInt8} {ds : List (List UInt8)} {p q : Nat} {n : GN} (h : nodeP l ds p = .ok (n, q)) (hp : p ≤ l.length) (hd : ∀ d ∈ ds, d.length ≤ 8192) : q ≤ l.length ∧ n.p.length ≤ 8192 ∧ n.d.length ≤ 8192 ∧ 0 ≤ n.k ∧ n.k ≤ 3 ∧ (∀ x ∈ n.p, -1 ≤ x) ∧ n.d ∈ ds := by
  unfold nodeP at h
  split at h
  · cases h
  rename_i k p1 hk
  split at h
  · cases h
  rename_i d p2 hdn
  split at h
  · cases h
  rename_i m p3 hm
  split at h
  · cases h
  rename_i ps p4 hps
  simp only [Except.ok.injEq, Prod.mk.injEq] at h
  obtain ⟨rfl, rfl⟩ := h
  have h1 := numP_ok hk hp
  have h2 := numP_ok hdn h1.2
  have h3 := numP_ok hm h2.2
  have h4 := repP_all (M := l.length) (R := fun x : Int => -1 ≤ x) (fun p x q hp hx => ⟨(ptrP_ok hx hp).1, (ptrP_ok hx hp).2.1⟩) h3.2 hps
  have h5 := repP_len hps
  have h6 : (ds[d]?).getD [] ∈ ds := by
    rw [List.getElem?_eq_getElem h2.1]
    exact List.getElem_mem h2.1
  exact ⟨h4.1, by dsimp only; omega, hd _ h6, by dsimp only; omega, by dsimp only; omega, h4.2, h6⟩

theorem rootP_ok' {l : List UInt8} {p q : Nat} {r : RM} (h : rootP l p = .ok (r, q)) (hp : p ≤ l.length) : q ≤ l.length ∧ r.1.length ≤ 8192 ∧ 0 ≤ r.2 := by
  unfold rootP at h
  split at h
  · cases h
  rename_i name q1 hn
  split at h
  · cases h
  rename_i v q2 hv
  simp only [Except.ok.injEq, Prod.mk.injEq] at h
  obtain ⟨rfl, rfl⟩ := h
  have h1 := bytP_ok hn hp
  have h2 := numP_ok hv h1.1
  exact ⟨h2.2, h1.2, by dsimp only; omega⟩

theorem graphP_parts {l : List UInt8} {p : Nat} {G : GG} {ds : List (List UInt8)} (h : graphP l p = .ok (G, ds)) (hp : p ≤ l.length) :
    ∃ p1 p2 p3, datasP l p = .ok (ds, p1) ∧ p1 ≤ l.length ∧ nodesP l ds p1 = .ok (G.n, p2) ∧ p2 ≤ l.length ∧ rootsP l p2 = .ok (G.r, p3) ∧ p3 = l.length ∧ (∀ d ∈ ds, d.length ≤ 8192) := by
  unfold graphP at h
  split at h
  · cases h
  rename_i ds' p1 h1
  split at h
  · cases h
  rename_i ns p2 h2
  split at h
  · cases h
  rename_i rs p3 h3
  split at h
  · cases h
  rename_i h4
  simp only [Except.ok.injEq, Prod.mk.injEq] at h
  obtain ⟨rfl, rfl⟩ := h
  have hd : p1 ≤ l.length ∧ ∀ d ∈ ds', d.length ≤ 8192 := by
    have h1' := h1
    unfold datasP at h1'
    split at h1'
    · cases h1'
    rename_i m q hm
    exact repP_all (M := l.length) (R := fun x : List UInt8 => x.length ≤ 8192) (fun p x q hp hx => bytP_ok hx hp) (numP_ok hm hp).2 h1'
  have hn : p2 ≤ l.length := by
    have h2' := h2
    unfold nodesP at h2'
    split at h2'
    · cases h2'
    rename_i m q hm
    exact (repP_all (M := l.length) (R := fun _ : GN => True) (fun p x q hp hx => ⟨(nodeP_ok hx hp hd.2).1, trivial⟩) (numP_ok hm hd.1).2 h2').1
  have hr : p3 ≤ l.length := by
    have h3' := h3
    unfold rootsP at h3'
    split at h3'
    · cases h3'
    rename_i m q hm
    exact (repP_all (M := l.length) (R := fun _ : RM => True) (fun p x q hp hx => ⟨(rootP_ok' hx hp).1, trivial⟩) (numP_ok hm hn).2 h3').1
  exact ⟨p1, p2, p3, h1, hd.1, h2, hn, h3, by omega, hd.2⟩

theorem graphP_small {l : List UInt8} {p : Nat} {G : GG} {ds : List (List UInt8)} (h : graphP l p = .ok (G, ds)) (hp : p ≤ l.length) : G.small ∧ (∀ d ∈ ds, d.length ≤ 8192) ∧ (∀ n ∈ G.n, n.d ∈ ds) := by
  obtain ⟨p1, p2, p3, h1, hp1, h2, hp2, h3, hp3, hd⟩ := graphP_parts h hp
  have hn : G.n.length ≤ 8192 ∧ ∀ n ∈ G.n, n.p.length ≤ 8192 ∧ n.d.length ≤ 8192 ∧ n.d ∈ ds := by
    unfold nodesP at h2
    split at h2
    · cases h2
    rename_i m q hm
    have hm' := numP_ok hm hp1
    have := repP_len h2
    exact ⟨by omega, (repP_all (M := l.length) (R := fun n : GN => n.p.length ≤ 8192 ∧ n.d.length ≤ 8192 ∧ n.d ∈ ds) (fun p x q hp hx => let h := nodeP_ok hx hp hd; ⟨h.1, h.2.1, h.2.2.1, h.2.2.2.2.2.2⟩) hm'.2 h2).2⟩
  have hr : G.r.length ≤ 8192 ∧ ∀ r ∈ G.r, r.1.length ≤ 8192 := by
    unfold rootsP at h3
    split at h3
    · cases h3
    rename_i m q hm
    have hm' := numP_ok hm hp2
    have := repP_len h3
    exact ⟨by omega, (repP_all (M := l.length) (R := fun r : RM => r.1.length ≤ 8192) (fun p x q hp hx => let h := rootP_ok' hx hp; ⟨h.1, h.2.1⟩) hm'.2 h3).2⟩
  exact ⟨⟨by omega, by omega, fun x hx => by have := (hn.2 x hx).1; omega, fun x hx => by have := (hn.2 x hx).2.1; omega, fun x hx => by have := hr.2 x hx; omega⟩, hd, fun n hn' => (hn.2 n hn').2.2⟩

theorem Y36 (s t : Sl) (xs ys : List (Sl × List UInt8)) (w : World) (hs : MS (fun x : Sl × List UInt8 => slV x.1) w s xs) (ht : MS (fun x : Sl × List UInt8 => slV x.1) w t ys) (hx : ∀ x ∈ xs, BS w x.1 x.2) (hy : ∀ y ∈ ys, BS w y.1 y.2) (hl : xs.length ≤ 1000000) :
    Calls Tryd.prog 29 #[slV s, slV t, .func (.func 10) #[] #[]] w (RetT [.c .bool] fun r w' => r = decide (xs.map (·.2) = ys.map (·.2)) ∧ w = w') := by
  refine F29_calls s t _ _ _ ?_
  unfold F29
  have h1 := hs.len
  have h2 := ht.len
  refine br_of (fun hne => ⟨?_, rfl⟩) fun heq => ?_
  · rw [decide_eq_false]
    intro he
    have := congrArg List.length he
    simp only [List.length_map] at this
    simp at hne; omega
  have hll : xs.length = ys.length := by simp at heq; omega
  simp only [deref_some']
  refine loop_of (fun z W => ∃ i : Nat, z = (i : Int) ∧ i ≤ xs.length ∧ (xs.take i).map (·.2) = (ys.take i).map (·.2) ∧ w = W) (fun z _ => xs.length - z.toNat) ⟨0, rfl, by omega, rfl, rfl⟩ ?_
  rintro _ _ ⟨i, rfl, hi, hpre, rfl⟩
  refine br_of (fun hlt => ?_) fun hge => ?_
  · simp only [decide_eq_true_eq] at hlt
    have hil : i < xs.length := by omega
    have hiy : i < ys.length := by omega
    refine ⟨⟨by omega, by omega⟩, ?_⟩
    rw [Int.toNat_natCast]
    refine MS.at (g := fun x : Sl × List UInt8 => slV x.1) (c := .slice) (p := xs[i].1) (x := xs[i]) hs (by simp [hil]) rfl ?_
    refine ⟨⟨by omega, by omega⟩, ?_⟩
    refine MS.at (g := fun x : Sl × List UInt8 => slV x.1) (c := .slice) (p := ys[i].1) (x := ys[i]) ht (by simp [hiy]) rfl ?_
    refine callV_fn rfl (by kernel_rfl) (Y12 xs[i].1 ys[i].1 xs[i].2 ys[i].2 w (hx _ (List.getElem_mem hil)) (hy _ (List.getElem_mem hiy))) ?_
    rintro _ _ ⟨rfl, rfl⟩
    refine br_of (fun hne => ⟨?_, rfl⟩) fun heq => ?_
    · simp only [Bool.not_eq_true', decide_eq_false_iff_not] at hne
      rw [decide_eq_false]
      intro he
      have := congrArg (·[i]?) he
      simp only [List.getElem?_map, List.getElem?_eq_getElem hil, List.getElem?_eq_getElem hiy, Option.map_some, Option.some.injEq] at this
      exact hne this
    · simp only [Bool.not_eq_false', decide_eq_true_eq] at heq
      rw [succ_i64 (by omega)]
      refine ⟨⟨i + 1, rfl, by omega, ?_, rfl⟩, by omega⟩
      rw [List.take_add_one, List.take_add_one, List.getElem?_eq_getElem hil, List.getElem?_eq_getElem hiy, List.map_append, List.map_append, hpre]
      simp [heq]
  · simp only [decide_eq_false_iff_not] at hge
    rw [List.take_of_length_le (by omega), List.take_of_length_le (by omega)] at hpre
    exact ⟨by rw [decide_eq_true hpre], rfl⟩

/-- a caught one -/
theorem caught_of {w W : World} {L : List HA} {r r1 rb : Nat} {x a b : Value} {vs : List Value} {k : Pr} (st : St noF w W (BoxA r1 [x] :: BoxA r [a, b] :: BoxA rb vs :: L))
    (hk : ∀ W', St noF w W' (BoxA r1 [.iface 83 (.pointer (some ⟨rb, 0, none⟩))] :: BoxA r [.slice none 0 0, .slice none 0 0] :: BoxA rb vs :: L) → k W') :
    callD Tryd.prog (.panicking (bad1 rb)) 24 [.pointer (some ⟨r, 0, none⟩), .pointer (some ⟨r1, 0, none⟩)] k W := by
  refine F24_deferred (some ⟨r, 0, none⟩) (some ⟨r1, 0, none⟩) _ _ (fun _ => k) W (.inr rfl) ?_
  unfold F24
  simp only [deref_some']
  refine ⟨trivial, br_of (fun h => by cases h) fun _ => ?_⟩
  refine ⟨some ⟨rb, 0, none⟩, true, .inl ⟨rfl, rfl⟩, ?_⟩
  refine br_of (fun _ => ?_) fun h => by cases h
  refine St.nw st fun rc w1 s1 _ _ => s1.st (i := 0) (by simp) trivial fun w2 s2 => ?_
  rw [drw_def]
  have s3 := s2.drew
  refine ⟨?_, ?_⟩
  · refine s3.ld (i := 0) (s := .ptr) (p := some ⟨rb, 0, none⟩) rfl ?_
    refine (s3.bring 2).st (i := 0) (by simp) trivial fun w4 s4 => s4.st (i := 1) (by simp) trivial fun w5 s5 => ?_
    refine (s5.bring 2).st0 trivial fun w6 s6 => hk w6 ?_
    exact s6.sel [0, 1, 3] 4
  · refine (s3.bring 2).st (i := 0) (by simp) trivial fun w4 s4 => s4.st (i := 1) (by simp) trivial fun w5 s5 => ?_
    refine (s5.bring 1).ld (i := 0) (s := .ptr) (p := some ⟨rb, 0, none⟩) rfl ?_
    refine (s5.bring 2).st0 trivial fun w6 s6 => hk w6 ?_
    exact s6.sel [0, 1, 3] 4

theorem slc_to {w : World} {s : Sl} {l : List UInt8} {n : Nat} {k : Sl → Pr} (h : BS w s l) (hc : s.len ≤ s.cap) (hn : n ≤ l.length) (hk : ∀ r, BS w r (l.take n) → r.len ≤ r.cap → r.a = s.a → k r w) : slc 1 s none (some (n : Int)) none k w := by
  have hl := h.len
  refine slc_hi (by omega) (by omega) ?_
  simp only [Int.toNat_natCast, map_add_zero, ite_self]
  refine hk _ ?_ (by dsimp only; omega) rfl
  have := (MS.sub (o := 0) (n := n) (a := s.a) (c := s.cap) h.ms (by omega) (.inl (by simp)) (fun _ => by cases s.a <;> simp)).bs
  simpa using this
end Go.Proofs

/-! Unpack. -/
set_option maxRecDepth 20000
namespace Go.Proofs
open Go.Eng

theorem bs_to {w : World} {s : Sl} {l : List UInt8} {n : Nat} (h : BS w s l) (hn : n ≤ l.length) : BS w ⟨s.a, n, s.cap⟩ (l.take n) := by
  have := (MS.sub (o := 0) (n := n) (a := s.a) (c := s.cap) h.ms (by omega) (.inl (by simp)) (fun _ => by cases s.a <;> simp)).bs
  simpa using this
theorem slc_to' {w : World} {s : Sl} {n : Nat} {k : Sl → Pr} (hc : n ≤ s.cap) (hk : k ⟨s.a, n, s.cap⟩ w) : slc 1 s none (some (n : Int)) none k w := by
  refine slc_hi (by omega) (by omega) ?_
  simp only [Int.toNat_natCast, map_add_zero, ite_self]
  exact hk

def PostUn (l : List UInt8) (w : World) (r : (Sl × Sl) × Value) (w' : World) : Prop :=
  (∃ g : GS, unpackM l = .ok g.m ∧ r.1 = (g.gn, g.gr) ∧ r.2 = .nilIface ∧ g.small ∧ St noF w w' [GAx g]) ∨
  (∃ e n b, unpackM l = .error (e, n) ∧ r.1 = (⟨none, 0, 0⟩, ⟨none, 0, 0⟩) ∧ r.2 = .iface 83 (.pointer (some ⟨b, 0, none⟩)) ∧ St noF w w' [BadA b e n])

theorem Y16 (s : Sl) (l : List UInt8) (w : World) (hs : BS w s l) (hc : s.len ≤ s.cap) (hl : l.length ≤ 1000000) : Calls Tryd.prog 12 #[slV s] w (RetT [.agg [.slice, .slice], .c .any] fun r w' => PostUn l w r w') := by
  refine F12_calls s _ _ ?_
  unfold F12
  simp only [deref_some']
  have hsl := hs.len
  refine St.nw (St.init0 w) fun r w1 s1 _ _ => ⟨trivial, St.nw s1 fun r1 w2 s2 _ _ => ?_⟩
  have s2 : St noF w w2 [BoxA r1 [.nilIface], BoxA r [.slice none 0 0, .slice none 0 0]] := s2
  -- how a panic ends
  have pan : ∀ (rb e : Nat) (n : Int) W L (x a b : Value), unpackM l = .error (e, n) → St noF w W (BoxA r1 [x] :: BoxA r [a, b] :: BadA rb e n :: L) →
      (callD Tryd.prog (.panicking (bad1 rb)) 24 [.pointer (some ⟨r, 0, none⟩), .pointer (some ⟨r1, 0, none⟩)] <|
        ldA [.slice, .slice] ⟨r, 0, none⟩ fun (res : Sl × Sl) => ldC .any ⟨r1, 0, none⟩ fun (res_1 : Value) => (fun r w' => PostUn l w r w') ((res.1, res.2), res_1)) W := by
    intro rb e n W L x a b hu st
    refine caught_of st fun W' s' => ?_
    refine Box.ldA (l := [.slice, .slice]) (p := (⟨none, 0, 0⟩, ⟨none, 0, 0⟩)) (s'.bring 1).box ?_
    refine s'.ld0 (s := .any) (p := .iface 83 (.pointer (some ⟨rb, 0, none⟩))) rfl ?_
    exact .inr ⟨e, n, rb, hu, rfl, rfl, St.dropR (l := [_]) (s'.bring 2)⟩
  -- the magic
  refine jn_of (fun _ W => 12 ≤ l.length ∧ l.take 8 = magicL ∧ St noF w W [BoxA r1 [.nilIface], BoxA r [.slice none 0 0, .slice none 0 0]]) ?_ ?_
  · refine jn_of (fun s' W => s' = decide (l.length < 12 ∨ l.take 8 ≠ magicL) ∧ St noF w W [BoxA r1 [.nilIface], BoxA r [.slice none 0 0, .slice none 0 0]]) ?_ ?_
    · rw [show IntKind.wrap .i64 (8 + 4) = 12 by decide]
      refine br_of (fun hlt => ?_) fun hge => ?_
      · simp only [decide_eq_true_eq] at hlt
        exact ⟨by rw [decide_eq_true (.inl (by omega))], s2⟩
      · simp only [decide_eq_false_iff_not] at hge
        refine slc_to (n := 8) (hs.grow s2.gro) hc (by omega) fun t ht _ _ => b2s_of ht ⟨?_, s2⟩
        rw [bytesOf_toList]
        have e : (⟨#[97, 116, 116, 105, 99, 32, 97, 10]⟩ : ByteArray).toList = magicL := by
          show (bytesOf magicL).toList = magicL
          rw [bytesOf_toList]
        rw [e, Bool.eq_iff_iff]
        simp only [Bool.not_eq_true', beq_eq_false_iff_ne, decide_eq_true_eq]
        exact ⟨fun h => .inr h, fun h => h.resolve_left (by omega)⟩
    · rintro _ W ⟨rfl, sW⟩
      refine br_of (fun hb => ?_) fun hb => ?_
      · rw [decide_eq_true_eq] at hb
        refine callFP_of (Y32 0 (.iface 33 (.int .i64 260)) W trivial) ?_ fun _ _ h => h.elim
        rintro ch w' ⟨rb, rfl, k⟩
        exact pan rb 0 260 w' _ _ _ _ (by unfold unpackM; rw [if_pos hb]) ((sW.call0 k).sel [1, 2, 0] 3)
      · rw [decide_eq_false_iff_not] at hb
        exact ⟨by omega, Decidable.not_not.1 fun h => hb (.inr h), sW⟩
  rintro ⟨⟩ W ⟨h12, hmag, sW⟩
  have hu1 : ¬ (l.length < 12 ∨ l.take 8 ≠ magicL) := by
    rintro (h | h)
    · omega
    · exact h hmag
  rw [show IntKind.wrap .i64 ((s.len : Int) - 4) = (s.len : Int) - 4 from wrap_i64 ⟨by omega, by omega⟩]
  have he4 : (s.len : Int) - 4 = ((l.length - 4 : Nat) : Int) := by omega
  rw [he4]
  -- the sum
  refine jn_of (fun _ W => numB 4 (sumM (l.take (l.length - 4))) = l.drop (l.length - 4) ∧ St noF w W [BoxA r1 [.nilIface], BoxA r [.slice none 0 0, .slice none 0 0]]) ?_ ?_
  · refine callFP_T (Y33 s l W (hs.grow sW.gro) hc (by omega)) ?_
    rintro ⟨t, e⟩ W2 ⟨he, g2⟩
    have s3 := sW.grow g2
    dsimp only at he ⊢
    unfold unsealE at he
    rw [if_neg (by omega)] at he
    refine br_of (fun hne => ?_) fun heq => ?_
    · have hsum : ¬ numB 4 (sumM (l.take (l.length - 4))) = l.drop (l.length - 4) := by
        intro h
        rw [if_pos h] at he
        rw [he] at hne
        simp at hne
      rw [if_neg hsum] at he
      subst he
      refine callFP_of (Y32 ((l.length - 4 : Nat) : Int) (.iface 33 (.int .i64 11)) W2 trivial) ?_ fun _ _ h => h.elim
      rintro ch w' ⟨rb, rfl, k⟩
      exact pan rb (l.length - 4) 11 w' _ _ _ _ (by unfold unpackM; rw [if_neg hu1, if_pos hsum]) ((s3.call0 k).sel [1, 2, 0] 3)
    · refine ⟨?_, s3⟩
      by_cases h : numB 4 (sumM (l.take (l.length - 4))) = l.drop (l.length - 4)
      · exact h
      · rw [if_neg h] at he
        rw [he] at heq
        simp at heq
  rintro ⟨⟩ W ⟨hsum, sW⟩
  -- reading
  have hun : unpackM l = match graphP (l.take (l.length - 4)) 8 with
      | .error p => .error (p, 260)
      | .ok (G, ds) => if okG G = true ∧ canM G = G ∧ dataL G = ds then .ok G else .error (l.length - 4, 180) := by
    unfold unpackM
    rw [if_neg hu1, if_neg (fun h => h hsum)]
    all_goals cases graphP (l.take (l.length - 4)) 8 <;> rfl
  have hbs0 := bs_to (n := l.length - 4) hs (by omega)
  refine slc_to' (n := l.length - 4) (by omega) ?_
  generalize hbse : (⟨s.a, l.length - 4, s.cap⟩ : Sl) = bs at hbs0 ⊢
  have hbsc : bs.len ≤ bs.cap := by rw [← hbse]; show l.length - 4 ≤ s.cap; omega
  refine St.nw sW fun rd w3 s3 _ _ => ?_
  have s3 : St noF w w3 [RdA rd bs 8, BoxA r1 [.nilIface], BoxA r [.slice none 0 0, .slice none 0 0]] := s3
  have hbl : (l.take (l.length - 4)).length = l.length - 4 := by rw [List.length_take]; omega
  obtain ⟨F', H, _, h1, h2, h3, h4, h5⟩ := s3.call1
  refine callFP_of (Y34 rd bs (l.take (l.length - 4)) 8 w3 F' h1 ((Rd.noF hbs0).go s3 h4) hbsc (by omega) (by omega)) ?_ ?_
  · rintro ch w' ⟨e, rb, p, he, rfl, k⟩
    refine pan rb e 260 w' [RdA rd bs p] _ _ _ (by rw [hun, he]) ((h5 w' _ k).sel [2, 3, 0, 1] 4)
  rintro _ w4 ⟨x, dd, t, hg, rfl, k4⟩
  rw [hg] at hun
  dsimp only at hun
  have s4 := h5 w4 _ k4
  have s4 : St noF w w4 [GAx x, SlA 1 t (dd.map fun x => slV x.1), bigA (dd.map dA), BoxA r1 [.nilIface], BoxA r [.slice none 0 0, .slice none 0 0]] := s4
  clear h1 h2 h3 h4 h5 s3
  have hsmG := graphP_small hg (by omega)
  have hsm : x.small := GS.small_iff.2 hsmG.1
  have hxn := hsm.nl
  have hxr := hsm.rl
  refine St.nw s4 fun r3 w5 s5 _ _ => s5.st (i := 0) (by simp) trivial fun w6 s6 => s6.st (i := 1) (by simp) trivial fun w7 s7 => ?_
  have s7 : St noF w w7 [BoxA r3 [slV x.gn, slV x.gr], GAx x, SlA 1 t (dd.map fun x => slV x.1), bigA (dd.map dA), BoxA r1 [.nilIface], BoxA r [.slice none 0 0, .slice none 0 0]] := s7
  refine Box.ldA (l := [.slice, .slice]) (p := (x.gn, x.gr)) s7.box ?_
  refine callFP_T (Y22 x _ (St.rg (s7.bring 1) hsm)) ?_
  -- what comes of it
  refine fun rr w8 hC => ?_
  have keep : ∃ T, St noF w w8 (T ++ [BoxA r3 [slV x.gn, slV x.gr], GAx x, SlA 1 t (dd.map fun x => slV x.1), bigA (dd.map dA), BoxA r1 [.nilIface], BoxA r [.slice none 0 0, .slice none 0 0]]) ∧ rr.2 = (if okG x.m = true then 0 else 180) ∧ (okG x.m = true → ∃ c : GS, T = [GAx c] ∧ c.gn = rr.1.1 ∧ c.gr = rr.1.2 ∧ c.m = canM x.m) := by
    rcases hC with ⟨hok, h2, c, h3, h4, h5, k⟩ | ⟨hbad, h2, _, k⟩
    · exact ⟨[GAx c], s7.call0 k, by rw [if_pos hok]; exact h2, fun _ => ⟨c, rfl, h3, h4, h5⟩⟩
    · exact ⟨[], s7.grow k, by rw [hbad, if_neg (by simp)]; exact h2, fun h => by rw [hbad] at h; cases h⟩
  clear hC
  obtain ⟨⟨cn, cr⟩, ce⟩ := rr
  obtain ⟨T, s8, hce, hT⟩ := keep
  dsimp only at hce hT ⊢
  refine St.nw s8 fun r4 w9 s9 _ _ => s9.st (i := 0) (by simp) trivial fun w10 s10 => s10.st (i := 1) (by simp) trivial fun w11 s11 => ?_
  have s11 : St noF w w11 ((BoxA r4 [slV cn, slV cr] :: T) ++ [BoxA r3 [slV x.gn, slV x.gr], GAx x, SlA 1 t (dd.map fun x => slV x.1), bigA (dd.map dA), BoxA r1 [.nilIface], BoxA r [.slice none 0 0, .slice none 0 0]]) := s11
  obtain ⟨good, hgood⟩ : ∃ good : Bool, good = decide (okG x.m = true ∧ canM x.m = x.m ∧ dataL x.m = dd.map (·.2)) := ⟨_, rfl⟩
  refine jn_of (fun _ W => good = true ∧ ∃ T, St noF w W ([BoxA r3 [slV x.gn, slV x.gr], GAx x, BoxA r1 [.nilIface], BoxA r [.slice none 0 0, .slice none 0 0]] ++ T)) ?_ ?_
  · refine jn_of (fun s' W => s' = !good ∧ ∃ T, St noF w W ([BoxA r3 [slV x.gn, slV x.gr], GAx x, BoxA r1 [.nilIface], BoxA r [.slice none 0 0, .slice none 0 0]] ++ T)) ?_ ?_
    · have base : ∀ {W T}, St noF w W (T ++ [BoxA r3 [slV x.gn, slV x.gr], GAx x, SlA 1 t (dd.map fun x => slV x.1), bigA (dd.map dA), BoxA r1 [.nilIface], BoxA r [.slice none 0 0, .slice none 0 0]]) → ∃ T, St noF w W ([BoxA r3 [slV x.gn, slV x.gr], GAx x, BoxA r1 [.nilIface], BoxA r [.slice none 0 0, .slice none 0 0]] ++ T) :=
        fun s => ⟨[], s.dropL.sel [0, 1, 4, 5] 6⟩
      refine br_of (fun hne => ?_) fun heq => ?_
      · have hb : okG x.m = false := by
          cases h : okG x.m with
          | false => rfl
          | true => rw [hce, h] at hne; simp at hne
        exact ⟨by rw [hgood, decide_eq_false (fun h => by rw [hb] at h; cases h.1)]; rfl, base s11⟩
      have hok : okG x.m = true := by
        cases h : okG x.m with
        | true => rfl
        | false => rw [hce, h] at heq; simp at heq
      obtain ⟨c, rfl, rfl, rfl, hcm⟩ := hT hok
      have s11 : St noF w w11 [BoxA r4 [slV c.gn, slV c.gr], GAx c, BoxA r3 [slV x.gn, slV x.gr], GAx x, SlA 1 t (dd.map fun x => slV x.1), bigA (dd.map dA), BoxA r1 [.nilIface], BoxA r [.slice none 0 0, .slice none 0 0]] := s11
      refine Box.ldA (l := [.slice, .slice]) (p := (c.gn, c.gr)) s11.box ?_
      refine Box.ldA (l := [.slice, .slice]) (p := (x.gn, x.gr)) (s11.bring 2).box ?_
      refine callFP_T (Y35 c x _ (St.rg (s11.bring 1) (GS.small_iff.2 (by rw [hcm]; exact can_small hok))) (St.rg (s11.bring 3) hsm)) ?_
      rintro _ w12 ⟨rfl, g12⟩
      have s12 := s11.grow g12
      refine br_of (fun hne => ?_) fun heq => ?_
      · simp only [Bool.not_eq_true', decide_eq_false_iff_not] at hne
        exact ⟨by rw [hgood, decide_eq_false (fun h => hne (by rw [hcm]; exact h.2.1))]; rfl, base (T := [_, _]) s12⟩
      · simp only [Bool.not_eq_false', decide_eq_true_eq] at heq
        refine Box.ldA (l := [.slice, .slice]) (p := (x.gn, x.gr)) (s12.bring 2).box ?_
        refine callFP_T (Y24 x _ (St.rg (s12.bring 3) hsm)) ?_
        rintro _ w13 ⟨db, rfl, k13⟩
        have s13 := s12.call0 k13
        obtain ⟨u, m, s14⟩ := DLA.rd s13
        simp only [deref_some']
        refine s14.ld (i := 0) (s := .slice) (p := u) rfl ?_
        have s14 : St noF w w13 [BoxA db [slV u, .map (some m)], SlA 1 u ((ddN x.xs).map fun y => slV y.ds), MapA strKT m (kvD ((ddN x.xs).map (·.d))), BoxA r4 [slV c.gn, slV c.gr], GAx c, BoxA r3 [slV x.gn, slV x.gr], GAx x, SlA 1 t (dd.map fun x => slV x.1), bigA (dd.map dA), BoxA r1 [.nilIface], BoxA r [.slice none 0 0, .slice none 0 0]] := s14
        have hgx := St.rg (s14.bring 6) hsm
        have hdl := dd_len x.xs []
        rw [List.length_nil] at hdl
        have hu : MS (fun z : Sl × List UInt8 => slV z.1) w13 u ((ddN x.xs).map fun y => (y.ds, y.d)) := by
          refine OwnS.ms (n0 := 0) ?_
          rw [List.map_map]
          exact (s14.bring 1).sl
        have ht : MS (fun z : Sl × List UInt8 => slV z.1) w13 t dd := OwnS.ms (s14.bring 7).sl
        have hdd : ∀ y ∈ dd, BS w13 y.1 y.2 := by
          intro y hy
          obtain ⟨_, F, hh, _⟩ := s14.bring 8
          obtain ⟨G1, hG1, _⟩ := Has.mem hh (List.mem_cons_self ..)
          obtain ⟨G3, hG3, _⟩ := Has.mem (show Has (dd.map dA) w13 G1 from hG1) (List.mem_map.2 ⟨y, hy, rfl⟩)
          exact hG3.1.bs
        have hxx : ∀ z ∈ (ddN x.xs).map (fun y : NS => (y.ds, y.d)), BS w13 z.1 z.2 := by
          intro z hz
          obtain ⟨y, hy, rfl⟩ := List.mem_map.1 hz
          exact hgx.bd y ((ddN_sub _ _ y hy).elim (fun h => by cases h) id)
        refine callFP_T (Y36 u t _ dd w13 hu ht hxx hdd (by rw [List.length_map]; unfold ddN; omega)) ?_
        rintro _ _ ⟨rfl, rfl⟩
        have e : ((ddN x.xs).map (fun y : NS => (y.ds, y.d))).map (·.2) = dataL x.m := by
          rw [← ddN_map, List.map_map]
          rfl
        rw [e]
        refine ⟨?_, base (T := [_, _, _, _, _]) s14⟩
        rw [hgood]
        congr 1
        rw [Bool.eq_iff_iff]
        simp only [decide_eq_true_eq]
        exact ⟨fun h => ⟨hok, by rw [← hcm]; exact heq, h⟩, fun h => h.2.2⟩
    · rintro _ W2 ⟨rfl, T2, s12⟩
      refine br_of (fun hb => ?_) fun hb => ?_
      · simp only [Bool.not_eq_true'] at hb
        refine callFP_of (Y32 ((l.length - 4 : Nat) : Int) (.iface 33 (.int .i64 180)) W2 trivial) ?_ fun _ _ h => h.elim
        rintro ch w' ⟨rb, rfl, k⟩
        have s12' : St noF w W2 [BoxA r3 [slV x.gn, slV x.gr], GAx x, BoxA r1 [.nilIface], BoxA r [.slice none 0 0, .slice none 0 0]] := s12.dropR
        have s13 := s12'.call0 k
        refine pan rb (l.length - 4) 180 w' [] _ _ _ ?_ (s13.sel [3, 4, 0] 5)
        rw [hun, if_neg]
        rw [hgood, decide_eq_false_iff_not] at hb
        exact hb
      · simp only [Bool.not_eq_false'] at hb
        exact ⟨hb, T2, s12⟩
  rintro ⟨⟩ W2 ⟨hg2, T2, s12⟩
  rw [hg2] at hgood
  have hgood := of_decide_eq_true hgood.symm
  rw [if_pos hgood] at hun
  have s12 : St noF w W2 [BoxA r3 [slV x.gn, slV x.gr], GAx x, BoxA r1 [.nilIface], BoxA r [.slice none 0 0, .slice none 0 0]] := s12.dropR
  refine Box.ldA (l := [.slice, .slice]) (p := (x.gn, x.gr)) s12.box ?_
  refine (s12.bring 3).st (i := 0) (by simp) trivial fun w13 s13 => s13.st (i := 1) (by simp) trivial fun w14 s14 => ?_
  refine (s14.bring 3).st0 trivial fun w15 s15 => ?_
  refine F24_deferred (some ⟨r, 0, none⟩) (some ⟨r1, 0, none⟩) .nilIface .returning (fun _ => _) w15 (.inl ⟨rfl, rfl⟩) ?_
  unfold F24
  refine ⟨trivial, br_of (fun _ => ?_) fun h => by cases h⟩
  have s15 : St noF w w15 [BoxA r1 [.nilIface], BoxA r [slV x.gn, slV x.gr], BoxA r3 [slV x.gn, slV x.gr], GAx x] := s15
  refine Box.ldA (l := [.slice, .slice]) (p := (x.gn, x.gr)) (s15.bring 1).box ?_
  refine s15.ld0 (s := .any) (p := .nilIface) rfl ?_
  exact .inl ⟨x, hun, rfl, rfl, hsm, s15.sel [3] 4⟩
end Go.Proofs


/-! The reference's reader: numbers, bytes, nodes. -/
set_option maxRecDepth 20000
namespace Go.Proofs
open Go.Eng

/-- where a reader is; where it went wrong -/
abbrev Pos := Except Nat Nat
def Pos.at (σ : Pos) : Nat := match σ with
  | .ok p => p
  | .error e => e
def Pos.bad (σ : Pos) : Bool := match σ with
  | .ok _ => false
  | .error _ => true
abbrev RbA (rd : Nat) (bs : Sl) (σ : Pos) : HA := BoxA rd [slV bs, .int .i64 (Pos.at σ), .bool (Pos.bad σ)]

def numS (l : List UInt8) (most : Nat) (σ : Pos) : Nat × Pos := match σ with
  | .error e => (0, .error e)
  | .ok p => match numP l most p with
    | .error e => (0, .error e)
    | .ok (v, q) => (v, .ok q)
def bytS (l : List UInt8) (σ : Pos) : List UInt8 × Pos := match σ with
  | .error e => ([], .error e)
  | .ok p => match bytP l p with
    | .error e => ([], .error e)
    | .ok (x, q) => (x, .ok q)
def repS {α : Type} (f : Pos → α × Pos) : Nat → Pos → List α × Pos
  | 0, σ => ([], σ)
  | n + 1, σ => if Pos.bad σ then ([], σ) else ((f σ).1 :: (repS f n (f σ).2).1, (repS f n (f σ).2).2)
def ptrS (l : List UInt8) (σ : Pos) : Int × Pos := (((numS l 8193 σ).1 : Int) - 1, (numS l 8193 σ).2)
def nodeS (l : List UInt8) (ds : List (List UInt8)) (σ : Pos) : GN × Pos :=
  (⟨((numS l 4 σ).1 : Int), (repS (ptrS l) (numS l 8193 (numS l ds.length (numS l 4 σ).2).2).1 (numS l 8193 (numS l ds.length (numS l 4 σ).2).2).2).1,
    if Pos.bad (numS l ds.length (numS l 4 σ).2).2 then [] else (ds[(numS l ds.length (numS l 4 σ).2).1]?).getD []⟩,
   (repS (ptrS l) (numS l 8193 (numS l ds.length (numS l 4 σ).2).2).1 (numS l 8193 (numS l ds.length (numS l 4 σ).2).2).2).2)

def Pos.in (l : List UInt8) (σ : Pos) : Prop := Pos.at σ ≤ l.length
theorem numP_errE {l : List UInt8} {most p e : Nat} (h : numP l most p = .error e) : e = p := by
  unfold numP at h
  split at h
  · simpa using h.symm
  · cases h
theorem numS_in {l : List UInt8} {most : Nat} {σ : Pos} (h : Pos.in l σ) : Pos.in l (numS l most σ).2 := by
  unfold numS
  cases σ with
  | error e => exact h
  | ok p =>
    dsimp only
    cases hn : numP l most p with
    | error e => rw [numP_errE hn]; exact h
    | ok y => exact (numP_ok hn h).2
theorem numS_lt {l : List UInt8} {most : Nat} {σ : Pos} (h : Pos.in l σ) : (numS l most σ).1 < most ∨ ((numS l most σ).1 = 0 ∧ Pos.bad (numS l most σ).2 = true) := by
  unfold numS
  cases σ with
  | error e => exact .inr ⟨rfl, rfl⟩
  | ok p =>
    dsimp only
    cases hn : numP l most p with
    | error e => exact .inr ⟨rfl, rfl⟩
    | ok y => exact .inl (numP_ok hn h).1
theorem bytP_errE {l : List UInt8} {p e : Nat} (h : bytP l p = .error e) : e = p := by
  unfold bytP at h
  split at h
  · rename_i e' he
    rw [numP_errE he] at h
    simpa using h.symm
  · split at h
    · simpa using h.symm
    · cases h
theorem bytS_in {l : List UInt8} {σ : Pos} (h : Pos.in l σ) : Pos.in l (bytS l σ).2 ∧ (bytS l σ).1.length ≤ 8192 := by
  unfold bytS
  cases σ with
  | error e => exact ⟨h, by simp⟩
  | ok p =>
    dsimp only
    cases hn : bytP l p with
    | error e => rw [bytP_errE hn]; exact ⟨h, by simp⟩
    | ok y => exact bytP_ok hn h

end Go.Proofs


/-! The reference's reader: nodes. -/
set_option maxRecDepth 20000
namespace Go.Proofs
open Go.Eng

section
variable {F : Nat → Prop} {w W : World} {L : List HA} {rd : Nat} {bs : Sl} {l : List UInt8} {σ : Pos}
end

def preS {α : Type} (acc : List α) (x : List α × Pos) : List α × Pos := (acc ++ x.1, x.2)
theorem preS_nil {α : Type} (x : List α × Pos) : preS [] x = x := rfl
theorem repS_next {α : Type} {f : Pos → α × Pos} {n i : Nat} {σ : Pos} {acc : List α} (hi : i < n) (hb : Pos.bad σ = false) : preS acc (repS f (n - i) σ) = preS (acc ++ [(f σ).1]) (repS f (n - (i + 1)) (f σ).2) := by
  rw [show n - i = (n - (i + 1)) + 1 by omega, repS, if_neg (by rw [hb]; simp)]
  simp [preS]
theorem repS_end {α : Type} {f : Pos → α × Pos} {n i : Nat} {σ : Pos} {acc : List α} (hi : n ≤ i ∨ Pos.bad σ = true) : preS acc (repS f (n - i) σ) = (acc, σ) := by
  rcases Nat.lt_or_ge i n with h | h
  · rw [show n - i = (n - (i + 1)) + 1 by omega, repS, if_pos (hi.resolve_left (by omega))]
    simp [preS]
  · rw [show n - i = 0 by omega, repS]
    simp [preS]

end Go.Proofs


/-! The reference's reader: a graph. -/
set_option maxRecDepth 20000
namespace Go.Proofs
open Go.Eng

def rootS (l : List UInt8) (σ : Pos) : RM × Pos := (((bytS l σ).1, ((numS l 8192 (bytS l σ).2).1 : Int)), (numS l 8192 (bytS l σ).2).2)
def datasS (l : List UInt8) (σ : Pos) : List (List UInt8) × Pos := repS (bytS l) (numS l 8193 σ).1 (numS l 8193 σ).2
def nodesS (l : List UInt8) (ds : List (List UInt8)) (σ : Pos) : List GN × Pos := repS (nodeS l ds) (numS l 8193 σ).1 (numS l 8193 σ).2
def rootsS (l : List UInt8) (σ : Pos) : List RM × Pos := repS (rootS l) (numS l 8193 σ).1 (numS l 8193 σ).2
def finS (l : List UInt8) (σ : Pos) : Pos := if !Pos.bad σ && decide (Pos.at σ < l.length) then .error (Pos.at σ) else σ
def graphS (l : List UInt8) (σ : Pos) : GG × List (List UInt8) × Pos :=
  (⟨(nodesS l (datasS l σ).1 (datasS l σ).2).1, (rootsS l (nodesS l (datasS l σ).1 (datasS l σ).2).2).1⟩, (datasS l σ).1, finS l (rootsS l (nodesS l (datasS l σ).1 (datasS l σ).2).2).2)

theorem rootS_in {l : List UInt8} {σ : Pos} (h : Pos.in l σ) : Pos.in l (rootS l σ).2 := numS_in (bytS_in h).1

section
variable {F : Nat → Prop} {w W : World} {L : List HA} {rd : Nat} {bs : Sl} {l : List UInt8} {σ : Pos}
end

end Go.Proofs

/-! The two readers are one. -/
set_option maxRecDepth 20000
namespace Go.Proofs
open Go.Eng

/-- what one reader got and what the other one got -/
def Agree {α : Type} (m : Got α) (x : α × Pos) : Prop := match x.2 with
  | .ok q => m = .ok (x.1, q)
  | .error e => m = .error e

theorem agree_num (l : List UInt8) (most p : Nat) : Agree (numP l most p) (numS l most (.ok p)) := by
  unfold numS Agree
  dsimp only
  cases h : numP l most p with
  | error e => rfl
  | ok y => rfl
theorem agree_byt (l : List UInt8) (p : Nat) : Agree (bytP l p) (bytS l (.ok p)) := by
  unfold bytS Agree
  dsimp only
  cases h : bytP l p with
  | error e => rfl
  | ok y => rfl
theorem numS_err (l : List UInt8) (most e : Nat) : numS l most (.error e) = (0, .error e) := rfl
theorem agree_rep {α : Type} {f : Nat → Got α} {g : Pos → α × Pos} (h : ∀ p, Agree (f p) (g (.ok p))) : ∀ n p, Agree (repP f n p) (repS g n (.ok p))
  | 0, p => rfl
  | n + 1, p => by
    have h1 := h p
    unfold repS
    rw [if_neg (by simp [Pos.bad])]
    rw [repP]
    cases hg : g (.ok p) with
    | mk x σ =>
      rw [hg] at h1
      cases σ with
      | error e =>
        have h1 : f p = .error e := h1
        rw [h1]
        dsimp only
        have : repS g n (.error e) = ([], .error e) := by
          cases n with
          | zero => rfl
          | succ n => unfold repS; rw [if_pos (show Pos.bad (.error e) = true from rfl)]
        rw [this]
        rfl
      | ok q =>
        have h1 : f p = .ok (x, q) := h1
        rw [h1]
        dsimp only
        have h2 := agree_rep h n q
        unfold Agree at h2 ⊢
        dsimp only at h2 ⊢
        cases hr : (repS g n (.ok q)).2 with
        | error e =>
          rw [hr] at h2
          dsimp only at h2 ⊢
          rw [h2]
          rfl
        | ok q' =>
          rw [hr] at h2
          dsimp only at h2 ⊢
          rw [h2]
          rfl
theorem repS_err {α : Type} (g : Pos → α × Pos) (n e : Nat) : repS g n (.error e) = ([], .error e) := by
  cases n with
  | zero => rfl
  | succ n => unfold repS; rw [if_pos (show Pos.bad (.error e) = true from rfl)]

theorem finS_ok (l : List UInt8) (p : Nat) : finS l (.ok p) = if p < l.length then .error p else .ok p := by
  show (if (!false && decide (p < l.length)) = true then (Except.error p : Pos) else .ok p) = _
  by_cases h : p < l.length
  · rw [if_pos h, if_pos (by simp [h])]
  · rw [if_neg h, if_neg (by simp [h])]

theorem agree_ptr (l : List UInt8) (p : Nat) : Agree (ptrP l p) (ptrS l (.ok p)) := by
  have h := agree_num l 8193 p
  unfold ptrP ptrS Agree
  unfold Agree at h
  dsimp only
  cases hn : numS l 8193 (.ok p) with
  | mk v σ =>
    rw [hn] at h
    cases σ with
    | error e => dsimp only at h ⊢; rw [h]
    | ok q => dsimp only at h ⊢; rw [h]

theorem agree_node (l : List UInt8) (ds : List (List UInt8)) (p : Nat) : Agree (nodeP l ds p) (nodeS l ds (.ok p)) := by
  unfold nodeP nodeS Agree
  have h1 := agree_num l 4 p
  unfold Agree at h1
  dsimp only
  cases hn1 : numS l 4 (.ok p) with
  | mk k σ1 =>
    rw [hn1] at h1
    cases σ1 with
    | error e =>
      dsimp only at h1 ⊢
      rw [h1, numS_err, numS_err, repS_err]
    | ok p1 =>
      dsimp only at h1 ⊢
      rw [h1]
      dsimp only
      have h2 := agree_num l ds.length p1
      unfold Agree at h2
      cases hn2 : numS l ds.length (.ok p1) with
      | mk d σ2 =>
        rw [hn2] at h2
        cases σ2 with
        | error e =>
          dsimp only at h2 ⊢
          rw [h2, numS_err, repS_err]
        | ok p2 =>
          dsimp only at h2 ⊢
          rw [h2]
          dsimp only
          have h3 := agree_num l 8193 p2
          unfold Agree at h3
          cases hn3 : numS l 8193 (.ok p2) with
          | mk m σ3 =>
            rw [hn3] at h3
            cases σ3 with
            | error e =>
              dsimp only at h3 ⊢
              rw [h3, repS_err]
            | ok p3 =>
              dsimp only at h3 ⊢
              rw [h3]
              dsimp only
              have h4 := agree_rep (agree_ptr l) m p3
              unfold Agree at h4
              cases hn4 : repS (ptrS l) m (.ok p3) with
              | mk ps σ4 =>
                rw [hn4] at h4
                cases σ4 with
                | error e =>
                  dsimp only at h4 ⊢
                  rw [h4]
                | ok p4 =>
                  dsimp only at h4 ⊢
                  rw [h4]
                  rfl

theorem agree_root (l : List UInt8) (p : Nat) : Agree (rootP l p) (rootS l (.ok p)) := by
  unfold rootP rootS Agree
  have h1 := agree_byt l p
  unfold Agree at h1
  dsimp only
  cases hn1 : bytS l (.ok p) with
  | mk k σ1 =>
    rw [hn1] at h1
    cases σ1 with
    | error e =>
      dsimp only at h1 ⊢
      rw [h1, numS_err]
    | ok p1 =>
      dsimp only at h1 ⊢
      rw [h1]
      dsimp only
      have h2 := agree_num l 8192 p1
      unfold Agree at h2
      cases hn2 : numS l 8192 (.ok p1) with
      | mk d σ2 =>
        rw [hn2] at h2
        cases σ2 with
        | error e =>
          dsimp only at h2 ⊢
          rw [h2]
        | ok p2 =>
          dsimp only at h2 ⊢
          rw [h2]

theorem agree_num_rep {α : Type} {f : Nat → Got α} {g : Pos → α × Pos} (h : ∀ p, Agree (f p) (g (.ok p))) (l : List UInt8) (p : Nat) :
    Agree (match numP l 8193 p with | .error e => .error e | .ok (m, q) => repP f m q) (repS g (numS l 8193 (.ok p)).1 (numS l 8193 (.ok p)).2) := by
  have h1 := agree_num l 8193 p
  unfold Agree at h1
  cases hn1 : numS l 8193 (.ok p) with
  | mk k σ1 =>
    rw [hn1] at h1
    cases σ1 with
    | error e =>
      dsimp only at h1 ⊢
      rw [h1, repS_err]
      rfl
    | ok p1 =>
      dsimp only at h1 ⊢
      rw [h1]
      exact agree_rep h k p1

/-- what the reference got, of a graph -/
theorem agree_graph (l : List UInt8) (p : Nat) : match (graphS l (.ok p)).2.2 with
    | .ok _ => graphP l p = .ok ((graphS l (.ok p)).1, (graphS l (.ok p)).2.1)
    | .error e => graphP l p = .error e := by
  have h1 : Agree (datasP l p) (datasS l (.ok p)) := agree_num_rep (agree_byt l) l p
  unfold graphS
  cases hd : datasS l (.ok p) with
  | mk ds σ1 =>
    rw [hd] at h1
    unfold Agree at h1
    cases σ1 with
    | error e =>
      dsimp only at h1 ⊢
      have e2 : (nodesS l ds (.error e)).2 = .error e := by unfold nodesS; rw [numS_err, repS_err]
      have e3 : (rootsS l (.error e)).2 = .error e := by unfold rootsS; rw [numS_err, repS_err]
      rw [e2, e3]
      exact graphP_1 h1
    | ok p1 =>
      dsimp only at h1 ⊢
      have h2 : Agree (nodesP l ds p1) (nodesS l ds (.ok p1)) := agree_num_rep (agree_node l ds) l p1
      cases hn : nodesS l ds (.ok p1) with
      | mk ns σ2 =>
        rw [hn] at h2
        unfold Agree at h2
        cases σ2 with
        | error e =>
          dsimp only at h2 ⊢
          have e3 : (rootsS l (.error e)).2 = .error e := by unfold rootsS; rw [numS_err, repS_err]
          rw [e3]
          exact graphP_2 h1 h2
        | ok p2 =>
          dsimp only at h2 ⊢
          have h3 : Agree (rootsP l p2) (rootsS l (.ok p2)) := agree_num_rep (agree_root l) l p2
          cases hr : rootsS l (.ok p2) with
          | mk rs σ3 =>
            rw [hr] at h3
            unfold Agree at h3
            cases σ3 with
            | error e =>
              dsimp only at h3 ⊢
              exact graphP_3 h1 h2 h3
            | ok p3 =>
              dsimp only at h3 ⊢
              have h4 := graphP_4 h1 h2 h3
              rw [finS_ok]
              by_cases hlt : p3 < l.length
              · rw [if_pos hlt] at h4 ⊢
                exact h4
              · rw [if_neg hlt] at h4 ⊢
                exact h4
end Go.Proofs

/-! Printing and reading, plain. -/
set_option maxRecDepth 20000
namespace Go.Proofs
open Go.Eng

theorem u8_toNat {n : Nat} (h : n < 256) : (UInt8.ofNat n).toNat = n := by
  rw [UInt8.toNat_ofNat']
  exact Nat.mod_eq_of_lt h

theorem tk_enc : ∀ (f n v i : Nat) (rest : List UInt8), i + f = 9 → n < 128 ^ (f + 1) → (i = 9 → n ≤ 1) → (0 < i → n ≠ 0) → (0 < f → i + f = 9 → n < 2 * 128 ^ f) →
    tkGo (uvGo f n ++ rest) v i = (v + n * 2 ^ (7 * i), i + (uvGo f n).length, 0)
  | 0, n, v, i, rest, hi, hn, h9, h0, _ => by
    have hi9 : i = 9 := by omega
    have hn1 := h9 hi9
    simp only [uvGo, List.cons_append, List.nil_append, List.length_cons, List.length_nil]
    rw [tk_unfold, u8_toNat (by omega), if_neg, if_pos (by omega)]
    rintro (h | h)
    · omega
    · exact h0 (by omega) h.2
  | f + 1, n, v, i, rest, hi, hn, h9, h0, hb => by
    unfold uvGo
    by_cases hs : n < 128
    · rw [if_pos hs]
      simp only [List.cons_append, List.nil_append, List.length_cons, List.length_nil]
      rw [tk_unfold, u8_toNat (by omega), if_neg, if_pos hs]
      rintro (h | h)
      · omega
      · exact h0 h.1 h.2
    · rw [if_neg hs]
      simp only [List.cons_append, List.length_cons]
      rw [tk_unfold, u8_toNat (by omega), if_neg (by omega), if_neg (by omega)]
      have hb' := hb (by omega) hi
      have hd : n / 128 < 128 ^ (f + 1) := by
        rw [Nat.div_lt_iff_lt_mul (by decide)]
        rw [Nat.pow_succ] at hn
        exact hn
      have hd2 : n / 128 < 2 * 128 ^ f := by
        rw [Nat.div_lt_iff_lt_mul (by decide)]
        rw [Nat.pow_succ] at hb'
        omega
      rw [tk_enc f (n / 128) _ (i + 1) rest (by omega) hd (fun h => by
        have : f = 0 := by omega
        subst this
        simp at hd2; omega) (fun _ => by omega) (fun _ _ => hd2)]
      have e : (n % 128 + 128) % 128 = n % 128 := by omega
      rw [e]
      have e2 : n = n % 128 + 128 * (n / 128) := by omega
      have e3 : 2 ^ (7 * (i + 1)) = 128 * 2 ^ (7 * i) := by rw [show 7 * (i + 1) = 7 + 7 * i by omega, Nat.pow_add]
      rw [e3]
      congr 1
      · have : n * 2 ^ (7 * i) = (n % 128) * 2 ^ (7 * i) + (n / 128) * (128 * 2 ^ (7 * i)) := by
          conv => lhs; rw [e2]
          rw [Nat.add_mul]
          congr 1
          rw [Nat.mul_comm 128, Nat.mul_assoc]
        omega
      · congr 1
        omega

theorem take_enc {n : Nat} (rest : List UInt8) (h : n < 2 ^ 62) : takeM (uvB n ++ rest) = (n, (uvB n).length, 0) := by
  unfold takeM uvB
  rw [tk_enc 9 n 0 0 rest rfl (by have : (2 : Nat) ^ 62 ≤ 128 ^ 10 := by decide
                                  omega) (by omega) (by omega) (fun _ _ => by have : (2 : Nat) ^ 62 ≤ 2 * 128 ^ 9 := by decide
                                                                              omega)]
  simp

theorem tk_dec (l : List UInt8) : ∀ (v i x k : Nat), i ≤ 9 → tkGo l v i = (x, k, 0) → ∃ n, x = v + n * 2 ^ (7 * i) ∧ i < k ∧ l = uvGo (9 - i) n ++ l.drop (k - i) ∧ k - i = (uvGo (9 - i) n).length ∧ (0 < i → n ≠ 0) := by
  induction l with
  | nil => intro v i x k hi h; simp [tkGo] at h
  | cons c l ih =>
    intro v i x k hi h
    have hc := c.toNat_lt
    rw [tk_unfold] at h
    split at h
    · simp at h
    rename_i h1
    split at h
    · rename_i h2
      simp only [Prod.mk.injEq, and_true] at h
      obtain ⟨rfl, rfl⟩ := h
      have hu : uvGo (9 - i) c.toNat = [c] := by
        have ec : UInt8.ofNat c.toNat = c := by simp
        cases hf : 9 - i with
        | zero => simp [uvGo, ec]
        | succ f => simp [uvGo, h2, ec]
      refine ⟨c.toNat, rfl, by omega, ?_, ?_, fun h0 he => h1 (.inr ⟨h0, he⟩)⟩
      · rw [hu, show i + 1 - i = 1 by omega]; rfl
      · rw [hu, show i + 1 - i = 1 by omega]; rfl
    · rename_i h2
      have hi9 : i < 9 := by
        rcases Nat.lt_or_ge i 9 with h | h
        · exact h
        · exact absurd (.inl ⟨by omega, by omega⟩) h1
      obtain ⟨n, hx, hk, hl, hlen, hn⟩ := ih _ _ _ _ (by omega) h
      have hn0 := hn (by omega)
      have e3 : 2 ^ (7 * (i + 1)) = 128 * 2 ^ (7 * i) := by rw [show 7 * (i + 1) = 7 + 7 * i by omega, Nat.pow_add]
      have hu : uvGo (9 - i) (c.toNat % 128 + 128 * n) = c :: uvGo (9 - (i + 1)) n := by
        rw [show 9 - i = (9 - (i + 1)) + 1 by omega, uvGo, if_neg (by omega)]
        congr 1
        · rw [show (c.toNat % 128 + 128 * n) % 128 + 128 = c.toNat by omega]; simp
        · congr 1; omega
      refine ⟨c.toNat % 128 + 128 * n, ?_, by omega, ?_, ?_, fun _ => by omega⟩
      · rw [hx, e3, Nat.add_mul]
        have : 128 * n * 2 ^ (7 * i) = n * (128 * 2 ^ (7 * i)) := by rw [Nat.mul_comm 128 n, Nat.mul_assoc]
        omega
      · rw [hu, show k - i = (k - (i + 1)) + 1 by omega]
        simp only [List.cons_append, List.drop_succ_cons]
        congr 1
      · rw [hu, List.length_cons]
        omega

theorem take_dec {l : List UInt8} {v k : Nat} (h : takeM l = (v, k, 0)) : l = uvB v ++ l.drop k ∧ k = (uvB v).length := by
  obtain ⟨n, hx, hk, hl, hlen, _⟩ := tk_dec l 0 0 v k (by omega) h
  have : n = v := by simp at hx; omega
  subst this
  exact ⟨hl, hlen⟩

/-- what lies between two places -/
def Seg (l : List UInt8) (p q : Nat) (B : List UInt8) : Prop := l.drop p = B ++ l.drop q ∧ q = p + B.length
theorem Seg.nil (l : List UInt8) (p : Nat) : Seg l p p [] := ⟨rfl, rfl⟩
theorem Seg.app {l : List UInt8} {p q r : Nat} {A B : List UInt8} (h : Seg l p q A) (k : Seg l q r B) : Seg l p r (A ++ B) := by
  refine ⟨by rw [h.1, k.1, List.append_assoc], ?_⟩
  rw [k.2, h.2, List.length_append]
  omega
theorem Seg.cut {l : List UInt8} {p r : Nat} {A B : List UInt8} (h : Seg l p r (A ++ B)) : Seg l p (p + A.length) A ∧ Seg l (p + A.length) r B := by
  obtain ⟨h1, h2⟩ := h
  rw [List.append_assoc] at h1
  have e : l.drop (p + A.length) = B ++ l.drop r := by
    rw [← List.drop_drop, h1]
    simp
  exact ⟨⟨by rw [e]; exact h1, rfl⟩, e, by rw [h2, List.length_append]; omega⟩

theorem num_dec {l : List UInt8} {most p v q : Nat} (h : numP l most p = .ok (v, q)) : Seg l p q (uvB v) ∧ v < most := by
  unfold numP at h
  split at h
  · cases h
  · rename_i hc
    simp only [not_or, Decidable.not_not, Nat.not_le] at hc
    simp only [Except.ok.injEq, Prod.mk.injEq] at h
    obtain ⟨rfl, rfl⟩ := h
    have := take_dec (l := l.drop p) (v := (takeM (l.drop p)).1) (k := (takeM (l.drop p)).2.1) (by rw [← hc.1])
    refine ⟨⟨?_, by rw [← this.2]⟩, hc.2⟩
    rw [← List.drop_drop]
    exact this.1
theorem num_enc {l : List UInt8} {most p v q : Nat} (h : Seg l p q (uvB v)) (hv : v < most) (h2 : v < 2 ^ 62) : numP l most p = .ok (v, q) := by
  unfold numP
  rw [h.1, take_enc _ h2, if_neg (by simp; omega), h.2]

theorem byt_dec {l : List UInt8} {p q : Nat} {x : List UInt8} (h : bytP l p = .ok (x, q)) (hp : p ≤ l.length) : Seg l p q (datB x) := by
  unfold bytP at h
  split at h
  · cases h
  rename_i n r hn
  split at h
  · cases h
  rename_i hlt
  simp only [Except.ok.injEq, Prod.mk.injEq] at h
  obtain ⟨rfl, rfl⟩ := h
  have h1 := num_dec hn
  have hr := numP_ok hn hp
  have hxl : ((l.drop r).take n).length = n := by rw [List.length_take, List.length_drop]; omega
  refine Seg.app (q := r) (by rw [hxl]; exact h1.1) ⟨?_, by rw [hxl]⟩
  rw [← List.drop_drop]
  exact (List.take_append_drop n _).symm
theorem byt_enc {l : List UInt8} {p q : Nat} {x : List UInt8} (h : Seg l p q (datB x)) (hx : x.length < 8193) (hp : p ≤ l.length) : bytP l p = .ok (x, q) := by
  unfold datB at h
  obtain ⟨h1, h2⟩ := h.cut
  have hn := num_enc (most := 8193) h1 hx (by have : (8193 : Nat) < 2 ^ 62 := by decide
                                              omega)
  unfold bytP
  rw [hn]
  dsimp only
  have hd := h2.1
  have hlen : x.length ≤ l.length - (p + (uvB x.length).length) := by
    have := congrArg List.length hd
    rw [List.length_append, List.length_drop] at this
    omega
  rw [if_neg (by omega), hd, h2.2]
  simp

theorem rep_dec {α : Type} {f : Nat → Got α} {B : α → List UInt8} {M : Nat} (l : List UInt8) (hf : ∀ p x q, p ≤ M → f p = .ok (x, q) → Seg l p q (B x) ∧ q ≤ M) : ∀ {n p q : Nat} {xs : List α}, p ≤ M → repP f n p = .ok (xs, q) → Seg l p q (xs.flatMap B)
  | 0, p, q, xs, hp, h => by
    simp only [repP, Except.ok.injEq, Prod.mk.injEq] at h
    obtain ⟨rfl, rfl⟩ := h
    exact Seg.nil l p
  | n + 1, p, q, xs, hp, h => by
    rw [repP] at h
    split at h
    · cases h
    rename_i x q1 hx
    have h1 := hf p x q1 hp hx
    cases hr : repP f n q1 with
    | error e => rw [hr] at h; cases h
    | ok y =>
      obtain ⟨ys, q2⟩ := y
      rw [hr] at h
      simp only [pre, Except.ok.injEq, Prod.mk.injEq] at h
      obtain ⟨rfl, rfl⟩ := h
      have h2 := rep_dec l hf h1.2 hr
      simpa using h1.1.app h2
theorem rep_enc {α : Type} {f : Nat → Got α} {B : α → List UInt8} (l : List UInt8) : ∀ {xs : List α} {p q : Nat}, (∀ p q, ∀ x ∈ xs, Seg l p q (B x) → p ≤ l.length → f p = .ok (x, q) ∧ q ≤ l.length) → p ≤ l.length → Seg l p q (xs.flatMap B) → repP f xs.length p = .ok (xs, q)
  | [], p, q, _, _, h => by
    have := h.2
    simp only [List.flatMap_nil, List.length_nil, Nat.add_zero] at this
    subst this
    rfl
  | x :: xs, p, q, hf, hp, h => by
    rw [List.flatMap_cons] at h
    obtain ⟨h1, h2⟩ := h.cut
    have h3 := hf _ _ x (List.mem_cons_self ..) h1 hp
    rw [List.length_cons, repP, h3.1]
    dsimp only
    rw [rep_enc l (fun p q y hy => hf p q y (List.mem_cons_of_mem _ hy)) h3.2 h2]
    rfl
end Go.Proofs

/-! Printing and reading graphs, plain. -/
set_option maxRecDepth 20000
namespace Go.Proofs
open Go.Eng

theorem nodB_eq (ds : List (List UInt8)) (n : GN) : nodB ds n = uvB n.k.toNat ++ (uvB (dnum ds n.d) ++ (uvB n.p.length ++ n.p.flatMap fun p => uvB (p + 1).toNat)) := by
  unfold nodB uvsB
  simp [List.append_assoc]

theorem ptr_dec {l : List UInt8} {p q : Nat} {x : Int} (h : ptrP l p = .ok (x, q)) : Seg l p q (uvB (x + 1).toNat) := by
  unfold ptrP at h
  split at h
  · cases h
  rename_i v r hv
  simp only [Except.ok.injEq, Prod.mk.injEq] at h
  obtain ⟨rfl, rfl⟩ := h
  have := (num_dec hv).1
  rwa [show ((v : Int) - 1 + 1).toNat = v by omega]
theorem ptr_enc {l : List UInt8} {p q : Nat} {x : Int} (h : Seg l p q (uvB (x + 1).toNat)) (h1 : -1 ≤ x ∧ x ≤ 8191) : ptrP l p = .ok (x, q) := by
  unfold ptrP
  rw [num_enc (most := 8193) h (by omega) (by have : (8193 : Nat) < 2 ^ 62 := by decide
                                              omega)]
  dsimp only
  rw [show (((x + 1).toNat : Nat) : Int) - 1 = x by omega]

theorem node_dec {l : List UInt8} {ds : List (List UInt8)} {p q : Nat} {n : GN} (h : nodeP l ds p = .ok (n, q)) (hp : p ≤ l.length) (hds : ds.Nodup) : Seg l p q (nodB ds n) := by
  unfold nodeP at h
  split at h
  · cases h
  rename_i k p1 hk
  split at h
  · cases h
  rename_i d p2 hdn
  split at h
  · cases h
  rename_i m p3 hm
  split at h
  · cases h
  rename_i ps p4 hps
  simp only [Except.ok.injEq, Prod.mk.injEq] at h
  obtain ⟨rfl, rfl⟩ := h
  have h1 := numP_ok hk hp
  have h2 := numP_ok hdn h1.2
  have h3 := numP_ok hm h2.2
  have s1 := (num_dec hk).1
  have s2 := (num_dec hdn).1
  have s3 := (num_dec hm).1
  have s4 := rep_dec (B := fun p : Int => uvB (p + 1).toNat) (M := l.length) l (fun p x q hp hx => ⟨ptr_dec hx, (ptrP_ok hx hp).1⟩) h3.2 hps
  have hlen := repP_len hps
  have hdd : dnum ds ((ds[d]?).getD []) = d := by
    rw [List.getElem?_eq_getElem h2.1]
    refine dnum_eq h2.1 rfl fun j hj hjd he => ?_
    have := (List.getElem_inj hds).1 he
    omega
  rw [nodB_eq]
  dsimp only
  rw [hdd, hlen, Int.toNat_natCast]
  exact s1.app (s2.app (s3.app s4))

theorem node_enc {l : List UInt8} {ds : List (List UInt8)} {p q : Nat} {n : GN} (h : Seg l p q (nodB ds n)) (hp : p ≤ l.length) (hk : 0 ≤ n.k ∧ n.k ≤ 3) (hd : n.d ∈ ds) (hl : n.p.length ≤ 8192) (hdl : ds.length ≤ 8192) (hpp : ∀ x ∈ n.p, -1 ≤ x ∧ x ≤ 8191) (hq : q ≤ l.length) :
    nodeP l ds p = .ok (n, q) := by
  rw [nodB_eq] at h
  obtain ⟨s1, h⟩ := h.cut
  obtain ⟨s2, h⟩ := h.cut
  obtain ⟨s3, s4⟩ := h.cut
  have hdn := dnum_lt hd
  have big : (8193 : Nat) < 2 ^ 62 := by decide
  have e1 := num_enc (most := 4) s1 (by omega) (by omega)
  have e2 := num_enc (most := ds.length) s2 hdn (by omega)
  have e3 := num_enc (most := 8193) s3 (by omega) (by omega)
  have hb : p + (uvB n.k.toNat).length + (uvB (dnum ds n.d)).length + (uvB n.p.length).length ≤ l.length := by have := s4.2; omega
  have e4 := rep_enc (B := fun p : Int => uvB (p + 1).toNat) (f := ptrP l) l (xs := n.p) (fun p q x hx hs hp => ⟨ptr_enc hs (hpp x hx), (ptrP_ok (ptr_enc hs (hpp x hx)) hp).1⟩) hb s4
  unfold nodeP
  rw [e1]
  dsimp only
  rw [e2]
  dsimp only
  rw [e3]
  dsimp only
  rw [e4]
  dsimp only
  have hdg : (ds[dnum ds n.d]?).getD [] = n.d := by
    rw [List.getElem?_eq_getElem hdn]
    have := List.findIdx_getElem (w := hdn)
    exact eq_of_beq this
  rw [hdg, show ((n.k.toNat : Nat) : Int) = n.k by omega]

theorem root_dec {l : List UInt8} {p q : Nat} {r : RM} (h : rootP l p = .ok (r, q)) (hp : p ≤ l.length) : Seg l p q (rootB r) := by
  unfold rootP at h
  split at h
  · cases h
  rename_i name q1 hn
  split at h
  · cases h
  rename_i v q2 hv
  simp only [Except.ok.injEq, Prod.mk.injEq] at h
  obtain ⟨rfl, rfl⟩ := h
  unfold rootB
  dsimp only
  rw [Int.toNat_natCast]
  exact (byt_dec hn hp).app (num_dec hv).1
theorem root_enc {l : List UInt8} {p q : Nat} {r : RM} (h : Seg l p q (rootB r)) (hp : p ≤ l.length) (hs : r.1.length ≤ 8192) (hr : 0 ≤ r.2 ∧ r.2 < 8192) : rootP l p = .ok (r, q) := by
  unfold rootB at h
  obtain ⟨s1, s2⟩ := h.cut
  have big : (8193 : Nat) < 2 ^ 62 := by decide
  have e1 := byt_enc s1 (by omega) hp
  have e2 := num_enc (most := 8192) s2 (by omega) (by omega)
  unfold rootP
  rw [e1]
  dsimp only
  rw [e2]
  dsimp only
  rw [show ((r.2.toNat : Nat) : Int) = r.2 by omega]

theorem dmS_nodup {ds : List (List UInt8)} {d : List UInt8} (h : ds.Nodup) : (dmS ds d).Nodup := by
  unfold dmS
  split
  · exact h
  · rename_i hn
    rw [List.nodup_append]
    exact ⟨h, by simp, fun a ha b hb he => hn (by rw [List.mem_singleton] at hb; rw [← hb, ← he]; exact ha)⟩
theorem dataL_nodup (G : GG) : (dataL G).Nodup := by
  unfold dataL
  have key : ∀ (l ds : List (List UInt8)), ds.Nodup → (l.foldl dmS ds).Nodup := by
    intro l
    induction l with
    | nil => exact fun _ h => h
    | cons x l ih => exact fun ds h => ih _ (dmS_nodup h)
  exact key _ _ (by simp)

/-- what is read of the bytes up to the sum, is what they are -/
theorem read_body {l : List UInt8} {G : GG} {ds : List (List UInt8)} (h : graphP l 8 = .ok (G, ds)) (h8 : 8 ≤ l.length) (hm : l.take 8 = magicL) (hds : ds.Nodup) : l = bodyB G ds := by
  obtain ⟨p1, p2, p3, h1, hp1, h2, hp2, h3, hp3, hd⟩ := graphP_parts h h8
  have s1 : Seg l 8 p1 (uvB ds.length ++ ds.flatMap datB) := by
    unfold datasP at h1
    split at h1
    · cases h1
    rename_i m q hm
    have hlen := repP_len h1
    rw [hlen]
    exact (num_dec hm).1.app (rep_dec (M := l.length) l (fun p x q hp hx => ⟨byt_dec hx hp, (bytP_ok hx hp).1⟩) (numP_ok hm h8).2 h1)
  have s2 : Seg l p1 p2 (uvB G.n.length ++ G.n.flatMap (nodB ds)) := by
    unfold nodesP at h2
    split at h2
    · cases h2
    rename_i m q hm
    have hlen := repP_len h2
    rw [hlen]
    exact (num_dec hm).1.app (rep_dec (M := l.length) l (fun p x q hp hx => ⟨node_dec hx hp hds, (nodeP_ok hx hp hd).1⟩) (numP_ok hm hp1).2 h2)
  have s3 : Seg l p2 p3 (uvB G.r.length ++ G.r.flatMap rootB) := by
    unfold rootsP at h3
    split at h3
    · cases h3
    rename_i m q hm
    have hlen := repP_len h3
    rw [hlen]
    exact (num_dec hm).1.app (rep_dec (M := l.length) l (fun p x q hp hx => ⟨root_dec hx hp, (rootP_ok' hx hp).1⟩) (numP_ok hm hp2).2 h3)
  have s := (s1.app (s2.app s3)).1
  rw [hp3, List.drop_length, List.append_nil] at s
  conv => lhs; rw [← List.take_append_drop 8 l, hm, s]
  unfold bodyB
  simp only [List.append_assoc]

/-- what is printed is read again -/
theorem body_read {G : GG} (ht : G.tiny) : graphP (bodyB G (dataL G)) 8 = .ok (G, dataL G) := by
  have hdl := dataL_len G
  have hnl := ht.nl
  have big : (8193 : Nat) < 2 ^ 62 := by decide
  have hd : ∀ d ∈ dataL G, d.length ≤ 8192 := fun d hd => by
    obtain ⟨n, hn, rfl⟩ := dataL_of G d hd
    have := ht.dl n hn
    omega
  generalize hl : bodyB G (dataL G) = l
  have hb : l = magicL ++ ((uvB (dataL G).length ++ (dataL G).flatMap datB) ++ ((uvB G.n.length ++ G.n.flatMap (nodB (dataL G))) ++ (uvB G.r.length ++ G.r.flatMap rootB))) := by
    rw [← hl]
    unfold bodyB
    simp only [List.append_assoc]
  have h8 : magicL.length = 8 := rfl
  have s : Seg l 8 l.length ((uvB (dataL G).length ++ (dataL G).flatMap datB) ++ ((uvB G.n.length ++ G.n.flatMap (nodB (dataL G))) ++ (uvB G.r.length ++ G.r.flatMap rootB))) := by
    refine ⟨?_, ?_⟩
    · conv => lhs; rw [hb]
      rw [List.drop_length, List.append_nil, List.drop_append_of_le_length (by omega)]
      rw [show magicL.drop 8 = [] from rfl, List.nil_append]
    · conv => lhs; rw [hb]
      rw [List.length_append, h8]
  obtain ⟨s1, s⟩ := s.cut
  obtain ⟨s2, s3⟩ := s.cut
  have hq1 : 8 + (uvB (dataL G).length ++ (dataL G).flatMap datB).length + (uvB G.n.length ++ G.n.flatMap (nodB (dataL G))).length ≤ l.length := by have := s3.2; omega
  generalize hp1 : 8 + (uvB (dataL G).length ++ (dataL G).flatMap datB).length = p1 at *
  generalize hp2 : p1 + (uvB G.n.length ++ G.n.flatMap (nodB (dataL G))).length = p2 at *
  have hp1l : p1 ≤ l.length := by omega
  have e1 : datasP l 8 = .ok (dataL G, p1) := by
    obtain ⟨t1, t2⟩ := s1.cut
    unfold datasP
    rw [num_enc (most := 8193) t1 (by omega) (by omega)]
    exact rep_enc l (fun p q x hx hs hp => ⟨byt_enc hs (by have := hd x hx; omega) hp, (bytP_ok (byt_enc hs (by have := hd x hx; omega) hp) hp).1⟩) (by have := t2.2; omega) t2
  have e2 : nodesP l (dataL G) p1 = .ok (G.n, p2) := by
    obtain ⟨t1, t2⟩ := s2.cut
    unfold nodesP
    rw [num_enc (most := 8193) t1 (by omega) (by omega)]
    refine rep_enc (B := nodB (dataL G)) l (fun p q x hx hs hp => ?_) (by have := t2.2; omega) t2
    have hq : q ≤ l.length := by
      have h1 := congrArg List.length hs.1
      rw [List.length_append, List.length_drop, List.length_drop] at h1
      have h2 := hs.2
      omega
    have hpl := ht.pl x hx
    exact ⟨node_enc hs hp (ht.kk x hx) (dataL_in hx) (by omega) (by omega) (fun y hy => by have := ht.pr x hx y hy; omega) hq, hq⟩
  have e3 : rootsP l p2 = .ok (G.r, l.length) := by
    obtain ⟨t1, t2⟩ := s3.cut
    have hrl := ht.rl
    unfold rootsP
    rw [num_enc (most := 8193) t1 (by omega) (by omega)]
    refine rep_enc (B := rootB) l (fun p q x hx hs hp => ?_) (by have := t2.2; omega) t2
    have hsl := ht.sl x hx
    have hrr := ht.rr x hx
    have h := root_enc hs hp (by omega) (by omega)
    exact ⟨h, (rootP_ok' h hp).1⟩
  rw [graphP_4 e1 e2 e3, if_neg (by omega)]

/-- when what was read is printed as it was -/
theorem pack_iff {b : List UInt8} {G : GG} {ds : List (List UInt8)} (h12 : 12 ≤ b.length) (hm : b.take 8 = magicL) (hs : numB 4 (sumM (b.take (b.length - 4))) = b.drop (b.length - 4)) (h : graphP (b.take (b.length - 4)) 8 = .ok (G, ds)) (ht : G.tiny) :
    packB G = b ↔ dataL G = ds := by
  have hbl : (b.take (b.length - 4)).length = b.length - 4 := by rw [List.length_take]; omega
  constructor
  · intro hp
    have hbody : bodyB G (dataL G) = b.take (b.length - 4) := by
      conv => rhs; rw [← hp]
      unfold packB sealM
      rw [List.length_append, numB_len, Nat.add_sub_cancel, List.take_left]
    have h2 := body_read ht
    rw [hbody, h] at h2
    simp only [Except.ok.injEq, Prod.mk.injEq, true_and] at h2
    exact h2.symm
  · intro hd
    have h2 := read_body h (by omega) (by rw [List.take_take, Nat.min_eq_left (by omega), hm]) (by rw [← hd]; exact dataL_nodup G)
    unfold packB sealM
    rw [hd, ← h2, hs, List.take_append_drop]
end Go.Proofs


/-! Unpack in the reference. -/
set_option maxRecDepth 20000
namespace Go.Proofs
open Go.Eng

def PostUnR (l : List UInt8) (w : World) (r : (Sl × Sl) × Int × Int) (w' : World) : Prop :=
  (∃ g : GS, unpackM l = .ok g.m ∧ r.1 = (g.gn, g.gr) ∧ r.2 = (0, 0) ∧ g.small ∧ St noF w w' [GAx g]) ∨
  (∃ (e : Nat) (n : Int), unpackM l = .error (e, n) ∧ r.1 = (⟨none, 0, 0⟩, ⟨none, 0, 0⟩) ∧ r.2 = ((e : Int), n) ∧ Grow w w')

end Go.Proofs

set_option maxRecDepth 100000
namespace Go.Proofs
open Go.Eng

/-! errors.Is -/
def an50 : An := (.sq .z (.sq (.sq (.jn [(11, .c .bool)] .z) (.br (.sq .z .z) .z)) (.sq .z (.sq .z .z))))

def F50 (p0 : Value) (p1 : Value) (Q : Bool → Pr) : Pr :=
  jn (S := Bool) (fun R =>
  owe (isI p0) <|
  br (isNilI p0) (
  R true) (
  owe (isI p1) <|
  R ((isNilI p1)))) fun s =>
  br s (
  ceqI Tryd.prog p0 p1 fun same =>
  Q same) (
  callE Tryd.prog 64 [p1] [.c .any] fun (t16 : Value) =>
  callM Tryd.prog t16 "Comparable" [] [.c .bool] fun (t17 : Bool) =>
  callF Tryd.prog 65 [p0, p1, (.bool t17)] [.c .bool] fun (t21 : Bool) =>
  Q t21)

theorem F50_calls (p0 : Value) (p1 : Value) (Q : Bool → Pr) (w : World) (h : F50 p0 p1 Q w) : Calls Tryd.prog 50 #[p0, p1] w (RetT [.c .bool] Q) :=
  callsIn_of_compile (an := an50) (args := [p0, p1]) (shs := [.c .bool]) Tryd.func50 (by
    have e : compileFn Tryd.prog Tryd.f50 an50 [p0, p1] [.c .bool] Q = F50 p0 p1 Q := by kernel_rfl
    rw [e]; exact h)

/-! errors.is -/
def an65 : An := (.sq .z (.bl (.lp [(0, .c .any)] (.bl (.sq (.sq (.jn [(19, .c .bool)] .z) (.br (.sq .z .z) .z)) (.sq (.sq .z (.sq (.jn [(30, .c .bool)] .z) (.br (.sq .z .z) .z))) (.sq .z (.bl (.sq .z (.br (.sq .z (.sq .z (.sq .z (.br (.sq .z .z) .z)))) (.sq .z (.br (.sq .z (.sq (.sq .z (.bl (.lp [(45, .c (.int .i64))] (.sq .z (.sq (.br .z .z) (.sq (.bl (.sq .z (.sq .z (.br (.sq .z .z) .z)))) .z)))))) (.sq .z .z))) (.sq .z (.sq .z .z))))))))))))))

def F65 (p0 : Value) (p1 : Value) (p2 : Bool) (Q : Bool → Pr) : Pr :=
  loopE (S := Value) (fun X s =>
  jn (S := Bool) (fun R =>
  br p2 (
  ceqI Tryd.prog s p1 fun same =>
  R same) (
  R false)) fun s_1 =>
  br s_1 (
  Q true) (
  asI Tryd.prog #[("Is", 155)] s true fun t22ok =>
  jn (S := Bool) (fun R_1 =>
  br t22ok (
  callM Tryd.prog (if t22ok = true then s else .nilIface) "Is" [p1] [.c .bool] fun (t29 : Bool) =>
  R_1 t29) (
  R_1 false)) fun s_2 =>
  br s_2 (
  Q true) (
  asI Tryd.prog #[("Unwrap", 149)] s true fun t32ok =>
  br t32ok (
  callM Tryd.prog (if t32ok = true then s else .nilIface) "Unwrap" [] [.c .any] fun (t36 : Value) =>
  owe (isI t36) <|
  br (isNilI t36) (
  Q false) (
  X t36)) (
  asI Tryd.prog #[("Unwrap", 152)] s true fun t39ok =>
  br t39ok (
  callM Tryd.prog (if t39ok = true then s else .nilIface) "Unwrap" [] [.c .slice] fun (t43 : Sl) =>
  loopE (S := Int) (fun X_1 s_3 =>
  br (decide (s_3 < (t43.len : Int))) (
  owe ((0 : Int) ≤ s_3 ∧ s_3 < (t43.len : Int)) <|
  deref t43.a fun a =>
  deref (some (a.add (Int.toNat s_3 * 1))) fun a_1 =>
  ldC .any a_1 fun (t48 : Value) =>
  callF Tryd.prog 65 [t48, p1, (.bool p2)] [.c .bool] fun (t52 : Bool) =>
  br t52 (
  Q true) (
  X_1 ((IntKind.wrap .i64 (s_3 + 1))))) (
  Q false)) 0) (
  Q false))))) p0

theorem F65_calls (p0 : Value) (p1 : Value) (p2 : Bool) (Q : Bool → Pr) (w : World) (h : F65 p0 p1 p2 Q w) : Calls Tryd.prog 65 #[p0, p1, (.bool p2)] w (RetT [.c .bool] Q) :=
  callsIn_of_compile (an := an65) (args := [p0, p1, (.bool p2)]) (shs := [.c .bool]) Tryd.func65 (by
    have e : compileFn Tryd.prog Tryd.f65 an65 [p0, p1, (.bool p2)] [.c .bool] Q = F65 p0 p1 p2 Q := by kernel_rfl
    rw [e]; exact h)

/-! (*attic/api.Fault).Unwrap -/
def an103 : An := (.sq .z (.sq .z .z))

def F103 (p0 : Option Addr) (Q : Value → Pr) : Pr :=
  deref p0 fun a =>
  deref (some a) fun a_1 =>
  deref (some (a_1.add 1)) fun a_2 =>
  ldC .any a_2 fun (t6 : Value) =>
  Q t6

theorem F103_calls (p0 : Option Addr) (Q : Value → Pr) (w : World) (h : F103 p0 Q w) : Calls Tryd.prog 103 #[(.pointer p0)] w (RetT [.c .any] Q) :=
  callsIn_of_compile (an := an103) (args := [(.pointer p0)]) (shs := [.c .any]) Tryd.func103 (by
    have e : compileFn Tryd.prog Tryd.f103 an103 [(.pointer p0)] [.c .any] Q = F103 p0 Q := by kernel_rfl
    rw [e]; exact h)

/-! errors.As -/
def an49 : An := (.sq .z (.sq (.sq .z (.br (.sq .z .z) .z)) (.sq (.jn [] (.sq .z (.br .z .z))) (.sq .z (.sq .z (.sq (.jn [] (.sq (.jn [(23, .c .bool)] .z) (.br .z .z))) (.sq .z (.sq (.jn [] (.sq (.jn [(35, .c .bool)] .z) (.br .z .z))) (.sq .z .z)))))))))

def F49 (p0 : Value) (p1 : Value) (Q : Bool → Pr) : Pr :=
  owe (isI p0) <|
  br (isNilI p0) (
  Q false) (
  jn (S := Unit) (fun R =>
  owe (isI p1) <|
  br (isNilI p1) (
  fls) (
  R ())) fun s =>
  callE Tryd.prog 60 [p1] [.agg [.ptr, .any, (.int .u64)]] fun (t14 : (Option Addr) × Value × Int) =>
  nw (.cells #[(.pointer none), (.pointer none), (.int .u64 0)] 123) fun r =>
  deref (some ⟨r, 0, none⟩) fun a =>
  st (a.add 0) (.pointer t14.1) <|
  st (a.add 1) t14.2.1 <|
  st (a.add 2) (.int .u64 t14.2.2) <|
  deref (some ⟨r, 0, none⟩) fun a_1 =>
  ldA [.ptr, .any, (.int .u64)] a_1 fun (t15 : (Option Addr) × Value × Int) =>
  callE Tryd.prog 61 [(.agg #[(.pointer t15.1), t15.2.1, (.int .u64 t15.2.2)])] [.c .any] fun (t16 : Value) =>
  jn (S := Unit) (fun R_1 =>
  jn (S := Bool) (fun R_2 =>
  callM Tryd.prog t16 "Kind" [] [.c (.int .u8)] fun (t18 : Int) =>
  br (t18 != 22) (
  R_2 true) (
  deref (some ⟨r, 0, none⟩) fun a_2 =>
  ldA [.ptr, .any, (.int .u64)] a_2 fun (t21 : (Option Addr) × Value × Int) =>
  callE Tryd.prog 62 [(.agg #[(.pointer t21.1), t21.2.1, (.int .u64 t21.2.2)])] [.c .bool] fun (t22 : Bool) =>
  R_2 t22)) fun s_2 =>
  br s_2 (
  fls) (
  R_1 ())) fun s_1 =>
  callM Tryd.prog t16 "Elem" [] [.c .any] fun (t26 : Value) =>
  jn (S := Unit) (fun R_3 =>
  jn (S := Bool) (fun R_4 =>
  callM Tryd.prog t26 "Kind" [] [.c (.int .u8)] fun (t28 : Int) =>
  br (t28 != 20) (
  deref (some ⟨0, 0, none⟩) fun a_3 =>
  ldC .any a_3 fun (t32 : Value) =>
  callM Tryd.prog t26 "Implements" [t32] [.c .bool] fun (t33 : Bool) =>
  R_4 (!t33)) (
  R_4 false)) fun s_4 =>
  br s_4 (
  fls) (
  R_3 ())) fun s_3 =>
  deref (some ⟨r, 0, none⟩) fun a_4 =>
  ldA [.ptr, .any, (.int .u64)] a_4 fun (t39 : (Option Addr) × Value × Int) =>
  callF Tryd.prog 63 [p0, p1, (.agg #[(.pointer t39.1), t39.2.1, (.int .u64 t39.2.2)]), t26] [.c .bool] fun (t41 : Bool) =>
  Q t41)

theorem F49_calls (p0 : Value) (p1 : Value) (Q : Bool → Pr) (w : World) (h : F49 p0 p1 Q w) : Calls Tryd.prog 49 #[p0, p1] w (RetT [.c .bool] Q) :=
  callsIn_of_compile (an := an49) (args := [p0, p1]) (shs := [.c .bool]) Tryd.func49 (by
    have e : compileFn Tryd.prog Tryd.f49 an49 [p0, p1] [.c .bool] Q = F49 p0 p1 Q := by kernel_rfl
    rw [e]; exact h)

/-! errors.as -/
def an63 : An := (.sq .z (.bl (.lp [(0, .c .any)] (.bl (.sq (.sq .z (.br (.sq .z (.sq .z .z)) .z)) (.sq (.sq .z (.sq (.jn [(35, .c .bool)] .z) (.br (.sq .z .z) .z))) (.sq .z (.bl (.sq .z (.br (.sq .z (.sq .z (.sq .z (.br (.sq .z .z) .z)))) (.sq .z (.br (.sq .z (.sq (.sq .z (.bl (.lp [(50, .c (.int .i64))] (.sq .z (.sq (.br .z .z) (.sq (.jn [] (.bl (.sq .z (.sq (.sq .z (.br .z .z)) (.sq .z (.br (.sq .z .z) .z)))))) .z)))))) (.sq .z .z))) (.sq .z (.sq .z .z))))))))))))))

def F63 (p0 : Value) (p1 : Value) (p2_0 : Option Addr) (p2_1 : Value) (p2_2 : Int) (p3 : Value) (Q : Bool → Pr) : Pr :=
  nw (.cells #[(.pointer p2_0), p2_1, (.int .u64 p2_2)] 123) fun r =>
  loopE (S := Value) (fun X s =>
  callE Tryd.prog 64 [s] [.c .any] fun (t17 : Value) =>
  callM Tryd.prog t17 "AssignableTo" [p3] [.c .bool] fun (t19 : Bool) =>
  br t19 (
  deref (some ⟨r, 0, none⟩) fun a =>
  ldA [.ptr, .any, (.int .u64)] a fun (t20 : (Option Addr) × Value × Int) =>
  callE Tryd.prog 73 [(.agg #[(.pointer t20.1), t20.2.1, (.int .u64 t20.2.2)])] [.agg [.ptr, .any, (.int .u64)]] fun (t21 : (Option Addr) × Value × Int) =>
  callE Tryd.prog 60 [s] [.agg [.ptr, .any, (.int .u64)]] fun (t23 : (Option Addr) × Value × Int) =>
  callE Tryd.prog 74 [(.agg #[(.pointer t21.1), t21.2.1, (.int .u64 t21.2.2)]), (.agg #[(.pointer t23.1), t23.2.1, (.int .u64 t23.2.2)])] [] fun (t24 : Unit) =>
  Q true) (
  asI Tryd.prog #[("As", 147)] s true fun t27ok =>
  jn (S := Bool) (fun R =>
  br t27ok (
  callM Tryd.prog (if t27ok = true then s else .nilIface) "As" [p1] [.c .bool] fun (t34 : Bool) =>
  R t34) (
  R false)) fun s_1 =>
  br s_1 (
  Q true) (
  asI Tryd.prog #[("Unwrap", 149)] s true fun t37ok =>
  br t37ok (
  callM Tryd.prog (if t37ok = true then s else .nilIface) "Unwrap" [] [.c .any] fun (t41 : Value) =>
  owe (isI t41) <|
  br (isNilI t41) (
  Q false) (
  X t41)) (
  asI Tryd.prog #[("Unwrap", 152)] s true fun t44ok =>
  br t44ok (
  callM Tryd.prog (if t44ok = true then s else .nilIface) "Unwrap" [] [.c .slice] fun (t48 : Sl) =>
  loopE (S := Int) (fun X_1 s_2 =>
  br (decide (s_2 < (t48.len : Int))) (
  jn (S := Unit) (fun R_1 =>
  owe ((0 : Int) ≤ s_2 ∧ s_2 < (t48.len : Int)) <|
  deref t48.a fun a_1 =>
  deref (some (a_1.add (Int.toNat s_2 * 1))) fun a_2 =>
  ldC .any a_2 fun (t53 : Value) =>
  owe (isI t53) <|
  br (isNilI t53) (
  R_1 ()) (
  deref (some ⟨r, 0, none⟩) fun a_3 =>
  ldA [.ptr, .any, (.int .u64)] a_3 fun (t58 : (Option Addr) × Value × Int) =>
  callF Tryd.prog 63 [t53, p1, (.agg #[(.pointer t58.1), t58.2.1, (.int .u64 t58.2.2)]), p3] [.c .bool] fun (t60 : Bool) =>
  br t60 (
  Q true) (
  R_1 ()))) fun s_3 =>
  X_1 ((IntKind.wrap .i64 (s_2 + 1)))) (
  Q false)) 0) (
  Q false))))) p0

theorem F63_calls (p0 : Value) (p1 : Value) (p2_0 : Option Addr) (p2_1 : Value) (p2_2 : Int) (p3 : Value) (Q : Bool → Pr) (w : World) (h : F63 p0 p1 p2_0 p2_1 p2_2 p3 Q w) : Calls Tryd.prog 63 #[p0, p1, (.agg #[(.pointer p2_0), p2_1, (.int .u64 p2_2)]), p3] w (RetT [.c .bool] Q) :=
  callsIn_of_compile (an := an63) (args := [p0, p1, (.agg #[(.pointer p2_0), p2_1, (.int .u64 p2_2)]), p3]) (shs := [.c .bool]) Tryd.func63 (by
    have e : compileFn Tryd.prog Tryd.f63 an63 [p0, p1, (.agg #[(.pointer p2_0), p2_1, (.int .u64 p2_2)]), p3] [.c .bool] Q = F63 p0 p1 p2_0 p2_1 p2_2 p3 Q := by kernel_rfl
    rw [e]; exact h)

/-! attic/atticlaw26.seen -/
def an31 : An := (.sq .z (.sq (.sq .z (.br (.sq .z .z) .z)) (.sq .z (.sq .z (.sq (.sq (.jn [(33, .c .bool)] .z) (.br (.sq .z .z) .z)) (.sq .z .z))))))

def F31 (p0 : Value) (Q : (Int × Int) × Bool → Pr) : Pr :=
  nw (.cells #[(.int .i64 0), (.int .i64 0)] 50) fun r =>
  owe (isI p0) <|
  br (isNilI p0) (
  deref (some ⟨r, 0, none⟩) fun a =>
  st (a.add 0) (.int .i64 0) <|
  st (a.add 1) (.int .i64 0) <|
  deref (some ⟨r, 0, none⟩) fun a_1 =>
  ldA [(.int .i64), (.int .i64)] a_1 fun (res : Int × Int) =>
  Q ((res.1, res.2), true)) (
  owe (NotAgg (.pointer none)) <| nw (.cells #[(.pointer none)] 83) fun r_1 =>
  owe (NotAgg (.int .i64 0)) <| nw (.cells #[(.int .i64 0)] 33) fun r_2 =>
  jn (S := Bool) (fun R =>
  callF Tryd.prog 49 [p0, (.iface 108 (.pointer (some ⟨r_1, 0, none⟩)))] [.c .bool] fun (t11 : Bool) =>
  br (!t11) (
  R true) (
  deref (some ⟨r_1, 0, none⟩) fun a_2 =>
  ldC .ptr a_2 fun (t14 : Option Addr) =>
  owe True <|
  br (Option.isNone t14) (
  R true) (
  callF Tryd.prog 49 [p0, (.iface 109 (.pointer (some ⟨r_2, 0, none⟩)))] [.c .bool] fun (t20 : Bool) =>
  br (!t20) (
  R true) (
  deref (some ⟨r_2, 0, none⟩) fun a_3 =>
  ldC (.int .i64) a_3 fun (t24 : Int) =>
  br (t24 == 0) (
  R true) (
  deref (some ⟨r_2, 0, none⟩) fun a_4 =>
  ldC (.int .i64) a_4 fun (t29 : Int) =>
  callF Tryd.prog 50 [p0, (.iface 33 (.int .i64 t29))] [.c .bool] fun (t31 : Bool) =>
  R (!t31)))))) fun s =>
  br s (
  deref (some ⟨r, 0, none⟩) fun a_5 =>
  st (a_5.add 0) (.int .i64 0) <|
  st (a_5.add 1) (.int .i64 0) <|
  deref (some ⟨r, 0, none⟩) fun a_6 =>
  ldA [(.int .i64), (.int .i64)] a_6 fun (res_1 : Int × Int) =>
  Q ((res_1.1, res_1.2), false)) (
  drw <|
  deref (some ⟨r_1, 0, none⟩) fun a_7 =>
  ldC .ptr a_7 fun (t35 : Option Addr) =>
  deref t35 fun a_8 =>
  deref (some a_8) fun a_9 =>
  deref (some (a_9.add 0)) fun a_10 =>
  ldC (.int .i64) a_10 fun (t38 : Int) =>
  deref (some ⟨r_2, 0, none⟩) fun a_11 =>
  ldC (.int .i64) a_11 fun (t39 : Int) =>
  deref (some ⟨r, 0, none⟩) fun a_12 =>
  st (a_12.add 0) (.int .i64 t38) <|
  st (a_12.add 1) (.int .i64 t39) <|
  deref (some ⟨r, 0, none⟩) fun a_13 =>
  ldA [(.int .i64), (.int .i64)] a_13 fun (res_2 : Int × Int) =>
  Q ((res_2.1, res_2.2), true)))

theorem F31_calls (p0 : Value) (Q : (Int × Int) × Bool → Pr) (w : World) (h : F31 p0 Q w) : Calls Tryd.prog 31 #[p0] w (RetT [.agg [(.int .i64), (.int .i64)], .c .bool] Q) :=
  callsIn_of_compile (an := an31) (args := [p0]) (shs := [.agg [(.int .i64), (.int .i64)], .c .bool]) Tryd.func31 (by
    have e : compileFn Tryd.prog Tryd.f31 an31 [p0] [.agg [(.int .i64), (.int .i64)], .c .bool] Q = F31 p0 Q := by kernel_rfl
    rw [e]; exact h)

/-! attic/atticlaw26.is -/
def an14 : An := (.sq .z (.sq .z (.sq .z .z)))

def F14 (p0 : Value) (p1_0 : Int) (p1_1 : Int) (Q : Bool → Pr) : Pr :=
  nw (.cells #[(.int .i64 p1_0), (.int .i64 p1_1)] 50) fun r =>
  callF Tryd.prog 31 [p0] [.agg [(.int .i64), (.int .i64)], .c .bool] fun (t9 : (Int × Int) × Bool) =>
  nw (.cells #[(.int .i64 0), (.int .i64 0)] 50) fun r_1 =>
  deref (some ⟨r_1, 0, none⟩) fun a =>
  st (a.add 0) (.int .i64 t9.1.1) <|
  st (a.add 1) (.int .i64 t9.1.2) <|
  br t9.2 (
  deref (some ⟨r_1, 0, none⟩) fun a_1 =>
  ldA [(.int .i64), (.int .i64)] a_1 fun (t14 : Int × Int) =>
  deref (some ⟨r, 0, none⟩) fun a_2 =>
  ldA [(.int .i64), (.int .i64)] a_2 fun (t15 : Int × Int) =>
  Q (((t14.1 == t15.1) && ((t14.2 == t15.2) && true)))) (
  Q false)

theorem F14_calls (p0 : Value) (p1_0 : Int) (p1_1 : Int) (Q : Bool → Pr) (w : World) (h : F14 p0 p1_0 p1_1 Q w) : Calls Tryd.prog 14 #[p0, (.agg #[(.int .i64 p1_0), (.int .i64 p1_1)])] w (RetT [.c .bool] Q) :=
  callsIn_of_compile (an := an14) (args := [p0, (.agg #[(.int .i64 p1_0), (.int .i64 p1_1)])]) (shs := [.c .bool]) Tryd.func14 (by
    have e : compileFn Tryd.prog Tryd.f14 an14 [p0, (.agg #[(.int .i64 p1_0), (.int .i64 p1_1)])] [.c .bool] Q = F14 p0 p1_0 p1_1 Q := by kernel_rfl
    rw [e]; exact h)


end Go.Proofs

/-! The model's entries for internal/reflectlite, at this program's types (turned from the worked example): 30 error, 33 api.Errno, 83 *api.Fault, 108 **api.Fault, 109 *api.Errno, 141 reflectlite's rtype. -/
set_option maxRecDepth 20000
namespace Go.Proofs
open Go.Eng Go.RowKit Go.Extern.Stop Go.Stop Go.Extern

abbrev tyV (t : Nat) : Value := .iface 141 (.agg #[.pointer (some ⟨1, t, none⟩)])

theorem rl_x79 (args : Array Value) (w : World) : (callFunc 60 args).run Tryd.prog w = (((fun args => ReflectliteValue.unpack (args.getD 0 (.tuple #[])))) args |>.run Tryd.prog w).andThen fun v w' => .ok (.value v) w' :=
  run_callFunc_extern (e := fun args => ReflectliteValue.unpack (args.getD 0 (.tuple #[]))) Tryd.func60 (by kernel_rfl) (by kernel_rfl) (by kernel_rfl) (by kernel_rfl) args w
theorem rl_x80 (args : Array Value) (w : World) : (callFunc 61 args).run Tryd.prog w = (((ReflectliteValue.methodAny (ReflectliteValue.valueError "reflectlite.Value.Type" 0) (fun t _ _ _ => ReflectliteType.toType t))) args |>.run Tryd.prog w).andThen fun v w' => .ok (.value v) w' :=
  run_callFunc_extern Tryd.func61 (by kernel_rfl) (by kernel_rfl) (by kernel_rfl) (by kernel_rfl) args w
theorem rl_x81 (args : Array Value) (w : World) : (callFunc 62 args).run Tryd.prog w = (((ReflectliteValue.method (ReflectliteValue.valueError "reflectlite.Value.IsNil" 0) ReflectliteValue.isNil)) args |>.run Tryd.prog w).andThen fun v w' => .ok (.value v) w' :=
  run_callFunc_extern Tryd.func62 (by kernel_rfl) (by kernel_rfl) (by kernel_rfl) (by kernel_rfl) args w
theorem rl_x83 (args : Array Value) (w : World) : (callFunc 64 args).run Tryd.prog w = (ReflectliteType.typeOf args |>.run Tryd.prog w).andThen fun v w' => .ok (.value v) w' :=
  run_callFunc_extern Tryd.func64 (by kernel_rfl) (by kernel_rfl) (by kernel_rfl) (by kernel_rfl) args w
theorem rl_x96 (args : Array Value) (w : World) : (callFunc 73 args).run Tryd.prog w = (((ReflectliteValue.method (ReflectliteValue.valueError "reflectlite.Value.Elem" 0) ReflectliteValue.elem)) args |>.run Tryd.prog w).andThen fun v w' => .ok (.value v) w' :=
  run_callFunc_extern Tryd.func73 (by kernel_rfl) (by kernel_rfl) (by kernel_rfl) (by kernel_rfl) args w
theorem rl_x97 (args : Array Value) (w : World) : (callFunc 74 args).run Tryd.prog w = ((ReflectliteValue.set) args |>.run Tryd.prog w).andThen fun v w' => .ok (.value v) w' :=
  run_callFunc_extern Tryd.func74 (by kernel_rfl) (by kernel_rfl) (by kernel_rfl) (by kernel_rfl) args w
theorem rl_x121 (args : Array Value) (w : World) : (callFunc 98 args).run Tryd.prog w = (((ReflectliteType.abiMethod fun t => do pure (.int .u8 (← Rtype.kind t)))) args |>.run Tryd.prog w).andThen fun v w' => .ok (.value v) w' :=
  run_callFunc_extern Tryd.func98 (by kernel_rfl) (by kernel_rfl) (by kernel_rfl) (by kernel_rfl) args w
theorem rl_x133 (args : Array Value) (w : World) : (callFunc 110 args).run Tryd.prog w = (((ReflectliteType.method ReflectliteType.elem)) args |>.run Tryd.prog w).andThen fun v w' => .ok (.value v) w' :=
  run_callFunc_extern Tryd.func110 (by kernel_rfl) (by kernel_rfl) (by kernel_rfl) (by kernel_rfl) args w
theorem rl_x134 (args : Array Value) (w : World) : (callFunc 111 args).run Tryd.prog w = (((ReflectliteType.relation "Implements" ReflectliteType.implements_)) args |>.run Tryd.prog w).andThen fun v w' => .ok (.value v) w' :=
  run_callFunc_extern Tryd.func111 (by kernel_rfl) (by kernel_rfl) (by kernel_rfl) (by kernel_rfl) args w
theorem rl_x131 (args : Array Value) (w : World) : (callFunc 108 args).run Tryd.prog w = (((ReflectliteType.relation "AssignableTo" ReflectliteType.assignableTo)) args |>.run Tryd.prog w).andThen fun v w' => .ok (.value v) w' :=
  run_callFunc_extern Tryd.func108 (by kernel_rfl) (by kernel_rfl) (by kernel_rfl) (by kernel_rfl) args w

theorem rl_x132 (args : Array Value) (w : World) : (callFunc 109 args).run Tryd.prog w = ((ReflectliteType.method fun t => do Rtype.noPackHeld "Comparable" t; pure (.bool (← typeInfo t).comparable)) args |>.run Tryd.prog w).andThen fun v w' => .ok (.value v) w' :=
  run_callFunc_extern Tryd.func109 (by kernel_rfl) (by kernel_rfl) (by kernel_rfl) (by kernel_rfl) args w
theorem rl_comp34 (w : World) : (ReflectliteType.method (fun t => do Rtype.noPackHeld "Comparable" t; pure (.bool (← typeInfo t).comparable)) #[.agg #[.pointer (some ⟨1, 33, none⟩)]]).run Tryd.prog w = .ok (.bool true) w := by kernel_rfl

theorem rl_valueOf107 (t : Addr) (w : World) : (ReflectliteValue.unpack (.iface 108 (.pointer (some t)))).run Tryd.prog w = .ok (.agg #[.pointer (some ⟨1, 108, none⟩), .pointer (some ⟨w.heap.size, 0, none⟩), .int .u64 150]) (w.alloc (.cells #[.pointer (some t)] 108)) := by kernel_rfl
theorem rl_valueOf108 (t : Addr) (w : World) : (ReflectliteValue.unpack (.iface 109 (.pointer (some t)))).run Tryd.prog w = .ok (.agg #[.pointer (some ⟨1, 109, none⟩), .pointer (some ⟨w.heap.size, 0, none⟩), .int .u64 150]) (w.alloc (.cells #[.pointer (some t)] 109)) := by kernel_rfl
theorem rl_valueOf96 (t : Addr) (w : World) : (ReflectliteValue.unpack (.iface 83 (.pointer (some t)))).run Tryd.prog w = .ok (.agg #[.pointer (some ⟨1, 83, none⟩), .pointer (some ⟨w.heap.size, 0, none⟩), .int .u64 150]) (w.alloc (.cells #[.pointer (some t)] 83)) := by kernel_rfl
theorem rl_valueOf34 (n : Int) (w : World) : (ReflectliteValue.unpack (.iface 33 (.int .i64 n))).run Tryd.prog w = .ok (.agg #[.pointer (some ⟨1, 33, none⟩), .pointer (some ⟨w.heap.size, 0, none⟩), .int .u64 130]) (w.alloc (.cells #[.int .i64 n] 33)) := by kernel_rfl
theorem rl_type107 (a : Addr) (w : World) : (ReflectliteValue.methodAny (ReflectliteValue.valueError "reflectlite.Value.Type" 0) (fun t _ _ _ => ReflectliteType.toType t) #[.agg #[.pointer (some ⟨1, 108, none⟩), .pointer (some a), .int .u64 150]]).run Tryd.prog w = .ok (tyV 108) w := by kernel_rfl
theorem rl_type108 (a : Addr) (w : World) : (ReflectliteValue.methodAny (ReflectliteValue.valueError "reflectlite.Value.Type" 0) (fun t _ _ _ => ReflectliteType.toType t) #[.agg #[.pointer (some ⟨1, 109, none⟩), .pointer (some a), .int .u64 150]]).run Tryd.prog w = .ok (tyV 109) w := by kernel_rfl
theorem rl_mKind (h : Value) (w : World) : (Go.method (Tryd.prog.types.size + Made.depth) 141 (.agg #[h]) "Kind").run Tryd.prog w = .ok (98, h) w := by kernel_rfl
theorem rl_mElem (h : Value) (w : World) : (Go.method (Tryd.prog.types.size + Made.depth) 141 (.agg #[h]) "Elem").run Tryd.prog w = .ok (110, .agg #[h]) w := by kernel_rfl
theorem rl_mImplements (h : Value) (w : World) : (Go.method (Tryd.prog.types.size + Made.depth) 141 (.agg #[h]) "Implements").run Tryd.prog w = .ok (111, .agg #[h]) w := by kernel_rfl
theorem rl_mAssignableTo (h : Value) (w : World) : (Go.method (Tryd.prog.types.size + Made.depth) 141 (.agg #[h]) "AssignableTo").run Tryd.prog w = .ok (108, .agg #[h]) w := by kernel_rfl
theorem rl_mComparable (h : Value) (w : World) : (Go.method (Tryd.prog.types.size + Made.depth) 141 (.agg #[h]) "Comparable").run Tryd.prog w = .ok (109, .agg #[h]) w := by kernel_rfl
theorem rl_mUnwrap (h : Value) (w : World) : (Go.method (Tryd.prog.types.size + Made.depth) 83 h "Unwrap").run Tryd.prog w = .ok (103, h) w := by kernel_rfl
theorem rl_kind107 (w : World) : ((ReflectliteType.abiMethod fun t => (fun a : Nat => Value.int IntKind.u8 (a : Int)) <$> Rtype.kind t) #[.pointer (some ⟨1, 108, none⟩)]).run Tryd.prog w = .ok (.int .u8 22) w := by kernel_rfl
theorem rl_kind108 (w : World) : ((ReflectliteType.abiMethod fun t => (fun a : Nat => Value.int IntKind.u8 (a : Int)) <$> Rtype.kind t) #[.pointer (some ⟨1, 109, none⟩)]).run Tryd.prog w = .ok (.int .u8 22) w := by kernel_rfl
theorem rl_kind96 (w : World) : ((ReflectliteType.abiMethod fun t => (fun a : Nat => Value.int IntKind.u8 (a : Int)) <$> Rtype.kind t) #[.pointer (some ⟨1, 83, none⟩)]).run Tryd.prog w = .ok (.int .u8 22) w := by kernel_rfl
theorem rl_kind34 (w : World) : ((ReflectliteType.abiMethod fun t => (fun a : Nat => Value.int IntKind.u8 (a : Int)) <$> Rtype.kind t) #[.pointer (some ⟨1, 33, none⟩)]).run Tryd.prog w = .ok (.int .u8 2) w := by kernel_rfl
theorem rl_elem107 (w : World) : (ReflectliteType.method ReflectliteType.elem #[.agg #[.pointer (some ⟨1, 108, none⟩)]]).run Tryd.prog w = .ok (tyV 83) w := by kernel_rfl
theorem rl_elem108 (w : World) : (ReflectliteType.method ReflectliteType.elem #[.agg #[.pointer (some ⟨1, 109, none⟩)]]).run Tryd.prog w = .ok (tyV 33) w := by kernel_rfl
theorem rl_impl96 (w : World) : (ReflectliteType.relation "Implements" ReflectliteType.implements_ #[.agg #[.pointer (some ⟨1, 83, none⟩)], tyV 30]).run Tryd.prog w = .ok (.bool true) w := by kernel_rfl
theorem rl_impl34 (w : World) : (ReflectliteType.relation "Implements" ReflectliteType.implements_ #[.agg #[.pointer (some ⟨1, 33, none⟩)], tyV 30]).run Tryd.prog w = .ok (.bool true) w := by kernel_rfl
theorem rl_typeOf96 (v : Value) (w : World) : (ReflectliteType.typeOf #[.iface 83 v]).run Tryd.prog w = .ok (tyV 83) w := by kernel_rfl
theorem rl_typeOf34 (v : Value) (w : World) : (ReflectliteType.typeOf #[.iface 33 v]).run Tryd.prog w = .ok (tyV 33) w := by kernel_rfl
theorem rl_as9696 (w : World) : (ReflectliteType.relation "AssignableTo" ReflectliteType.assignableTo #[.agg #[.pointer (some ⟨1, 83, none⟩)], tyV 83]).run Tryd.prog w = .ok (.bool true) w := by kernel_rfl
theorem rl_as9634 (w : World) : (ReflectliteType.relation "AssignableTo" ReflectliteType.assignableTo #[.agg #[.pointer (some ⟨1, 83, none⟩)], tyV 33]).run Tryd.prog w = .ok (.bool false) w := by kernel_rfl
theorem rl_as3434 (w : World) : (ReflectliteType.relation "AssignableTo" ReflectliteType.assignableTo #[.agg #[.pointer (some ⟨1, 33, none⟩)], tyV 33]).run Tryd.prog w = .ok (.bool true) w := by kernel_rfl
end Go.Proofs

/-! errors.As: the entries that read or write memory. -/
set_option maxRecDepth 20000
namespace Go.Proofs
open Go.Eng Go.RowKit Go.Extern.Stop Go.Stop Go.Extern

theorem rlm (z : Sem Value) (f : TypeId → Addr → Nat → Nat → Sem Value) (v : Value) :
    ReflectliteValue.method z f #[v] = (do match ← ReflectliteValue.parts v with | none => z | some (t, a, fl) => f t a fl (fl % 32)) := rfl
theorem rl_parts107 (a : Addr) (w : World) : (ReflectliteValue.parts (.agg #[.pointer (some ⟨1, 108, none⟩), .pointer (some a), .int .u64 150])).run Tryd.prog w = .ok (some (108, a, 150)) w := by kernel_rfl
theorem rl_parts108 (a : Addr) (w : World) : (ReflectliteValue.parts (.agg #[.pointer (some ⟨1, 109, none⟩), .pointer (some a), .int .u64 150])).run Tryd.prog w = .ok (some (109, a, 150)) w := by kernel_rfl
theorem rl_isNil107 (a p : Addr) (W : World) (ha : W.cell? a = some (.pointer (some p))) :
    (ReflectliteValue.method (ReflectliteValue.valueError "reflectlite.Value.IsNil" 0) ReflectliteValue.isNil #[.agg #[.pointer (some ⟨1, 108, none⟩), .pointer (some a), .int .u64 150]]).run Tryd.prog W = .ok (.bool false) W := by
  rw [rlm]
  simp only [Sem.run_bind, rl_parts107, Result.andThen]
  simp [ReflectliteValue.isNil, loadVar, isAgg, underlying, Tryd.underlying108, ha, Result.andThen]
theorem rl_isNil108 (a p : Addr) (W : World) (ha : W.cell? a = some (.pointer (some p))) :
    (ReflectliteValue.method (ReflectliteValue.valueError "reflectlite.Value.IsNil" 0) ReflectliteValue.isNil #[.agg #[.pointer (some ⟨1, 109, none⟩), .pointer (some a), .int .u64 150]]).run Tryd.prog W = .ok (.bool false) W := by
  rw [rlm]
  simp only [Sem.run_bind, rl_parts108, Result.andThen]
  simp [ReflectliteValue.isNil, loadVar, isAgg, underlying, Tryd.underlying109, ha, Result.andThen]
theorem rl_elemOf107 (w : World) : (Rtype.elem? 108).run Tryd.prog w = .ok (some 83) w := by kernel_rfl
theorem rl_elemOf108 (w : World) : (Rtype.elem? 109).run Tryd.prog w = .ok (some 33) w := by kernel_rfl
theorem rl_mk96 (p : Addr) (w : World) : (ReflectliteValue.mk 83 p ReflectliteValue.flagAddr).run Tryd.prog w = .ok (.agg #[.pointer (some ⟨1, 83, none⟩), .pointer (some p), .int .u64 406]) w := by kernel_rfl
theorem rl_mk34 (p : Addr) (w : World) : (ReflectliteValue.mk 33 p ReflectliteValue.flagAddr).run Tryd.prog w = .ok (.agg #[.pointer (some ⟨1, 33, none⟩), .pointer (some p), .int .u64 386]) w := by kernel_rfl
theorem rl_elemV107 (a p : Addr) (W : World) (ha : W.cell? a = some (.pointer (some p))) :
    (ReflectliteValue.method (ReflectliteValue.valueError "reflectlite.Value.Elem" 0) ReflectliteValue.elem #[.agg #[.pointer (some ⟨1, 108, none⟩), .pointer (some a), .int .u64 150]]).run Tryd.prog W
      = .ok (.agg #[.pointer (some ⟨1, 83, none⟩), .pointer (some p), .int .u64 406]) W := by
  rw [rlm]
  simp only [Sem.run_bind, rl_parts107, Result.andThen]
  simp [ReflectliteValue.elem, loadVar, isAgg, underlying, Tryd.underlying108, ha, Result.andThen, rl_elemOf107, rl_mk96]
theorem rl_elemV108 (a p : Addr) (W : World) (ha : W.cell? a = some (.pointer (some p))) :
    (ReflectliteValue.method (ReflectliteValue.valueError "reflectlite.Value.Elem" 0) ReflectliteValue.elem #[.agg #[.pointer (some ⟨1, 109, none⟩), .pointer (some a), .int .u64 150]]).run Tryd.prog W
      = .ok (.agg #[.pointer (some ⟨1, 33, none⟩), .pointer (some p), .int .u64 386]) W := by
  rw [rlm]
  simp only [Sem.run_bind, rl_parts108, Result.andThen]
  simp [ReflectliteValue.elem, loadVar, isAgg, underlying, Tryd.underlying109, ha, Result.andThen, rl_elemOf108, rl_mk34]
theorem rls (v x : Value) : ReflectliteValue.set #[v, x] = (do
    let (some (dst, a, fl), some (src, b, _)) := (← ReflectliteValue.parts v, ← ReflectliteValue.parts x)
      | unsupported (.noEntry "extern/(internal/reflectlite.Value).Set.zeroValue")
    if fl / ReflectliteValue.flagAddr % 2 == 0 then unsupported (.noEntry "extern/(internal/reflectlite.Value).Set.unaddressable")
    let val ← loadVar src b
    if ← Rtype.directlyAssignable dst src then storeVar dst a val
    else if ← Rtype.implements dst src then
      if (← Rtype.kind src) == 20 then
        match val with
        | .nilIface => unsupported (.noEntry "extern/reflectlite: a nil value of one interface type handed on as a value of another")
        | _ => storeVar dst a val
      else storeVar dst a (.iface src val)
    else panicString ("reflectlite.Set: value of type " ++ (← Rtype.spelt src) ++ " is not assignable to type " ++ (← Rtype.spelt dst))
    pure (.tuple #[])) := rfl
theorem rl_parts96a (a : Addr) (w : World) : (ReflectliteValue.parts (.agg #[.pointer (some ⟨1, 83, none⟩), .pointer (some a), .int .u64 406])).run Tryd.prog w = .ok (some (83, a, 406)) w := by kernel_rfl
theorem rl_parts96 (a : Addr) (w : World) : (ReflectliteValue.parts (.agg #[.pointer (some ⟨1, 83, none⟩), .pointer (some a), .int .u64 150])).run Tryd.prog w = .ok (some (83, a, 150)) w := by kernel_rfl
theorem rl_parts34a (a : Addr) (w : World) : (ReflectliteValue.parts (.agg #[.pointer (some ⟨1, 33, none⟩), .pointer (some a), .int .u64 386])).run Tryd.prog w = .ok (some (33, a, 386)) w := by kernel_rfl
theorem rl_parts34 (a : Addr) (w : World) : (ReflectliteValue.parts (.agg #[.pointer (some ⟨1, 33, none⟩), .pointer (some a), .int .u64 130])).run Tryd.prog w = .ok (some (33, a, 130)) w := by kernel_rfl
theorem rl_direct96 (w : World) : (Rtype.directlyAssignable 83 83).run Tryd.prog w = .ok true w := by kernel_rfl
theorem rl_direct34 (w : World) : (Rtype.directlyAssignable 33 33).run Tryd.prog w = .ok true w := by kernel_rfl
theorem rl_size96 (w : World) : (sizeOf 83).run Tryd.prog w = .ok 1 w := by kernel_rfl
theorem rl_size34 (w : World) : (sizeOf 33).run Tryd.prog w = .ok 1 w := by kernel_rfl
theorem rl_set96 (ta b e : Addr) (old : Value) (W : World) (hb : W.cell? b = some (.pointer (some e))) (ht : W.cell? ta = some old) (hf : W.frozen? ta = false) :
    (ReflectliteValue.set #[.agg #[.pointer (some ⟨1, 83, none⟩), .pointer (some ta), .int .u64 406], .agg #[.pointer (some ⟨1, 83, none⟩), .pointer (some b), .int .u64 150]]).run Tryd.prog W
      = .ok (.tuple #[]) (W.setCell ta (.pointer (some e))) := by
  rw [rls]
  simp only [Sem.run_bind, rl_parts96a, rl_parts96, Result.andThen]
  simp [ReflectliteValue.flagAddr, loadVar, isAgg, underlying, Tryd.underlying83, hb, Result.andThen, rl_direct96, storeVar, Value.cells, storeCells, Addr.add]
  rw [run_store Tryd.prog W ta _ _ (by rfl)]
  simp [ht, hf]
theorem rl_set34 (ta b : Addr) (n : Int) (old : Value) (W : World) (hb : W.cell? b = some (.int .i64 n)) (ht : W.cell? ta = some old) (hf : W.frozen? ta = false) :
    (ReflectliteValue.set #[.agg #[.pointer (some ⟨1, 33, none⟩), .pointer (some ta), .int .u64 386], .agg #[.pointer (some ⟨1, 33, none⟩), .pointer (some b), .int .u64 130]]).run Tryd.prog W
      = .ok (.tuple #[]) (W.setCell ta (.int .i64 n)) := by
  rw [rls]
  simp only [Sem.run_bind, rl_parts34a, rl_parts34, Result.andThen]
  simp [ReflectliteValue.flagAddr, loadVar, isAgg, underlying, Tryd.underlying33, hb, Result.andThen, rl_direct34, storeVar, Value.cells, storeCells, Addr.add]
  rw [run_store Tryd.prog W ta _ _ (by rfl)]
  simp [ht, hf]
end Go.Proofs

/-! errors.As and errors.Is at an archive's errors. -/
set_option maxRecDepth 20000
namespace Go.Proofs
open Go.Eng Go.RowKit Go.Extern.Stop Go.Stop Go.Extern

theorem callE_of {P : Program} {f : FuncId} {args : List Value} {shs : List Sh} {k : PayL shs → Pr} {w w' : World} (p : PayL shs) (h : (callFunc f args.toArray).run P w = .ok (.value (valR shs p)) w') (hk : k p w') : callE P f args shs k w := ⟨p, w', h, hk⟩
theorem callM_ext {P : Program} {t : TypeId} {u recv : Value} {name : String} {f : FuncId} {args : List Value} {shs : List Sh} {k : PayL shs → Pr} {w w' : World} (p : PayL shs) (hm : (Go.method (P.types.size + Made.depth) t u name).run P w = .ok (f, recv) w)
    (h : (callFunc f (#[recv] ++ args.toArray)).run P w = .ok (.value (valR shs p)) w') (hk : k p w') : callM P (.iface t u) name args shs k w := ⟨t, u, f, recv, rfl, hm, .inr ⟨p, w', h, hk⟩⟩

theorem e79_107 (t : Addr) (w : World) : (callFunc 60 [Value.iface 108 (.pointer (some t))].toArray).run Tryd.prog w = .ok (.value (valR [.agg [.ptr, .any, .int .u64]] (some ⟨1, 108, none⟩, .pointer (some ⟨w.heap.size, 0, none⟩), 150))) (w.alloc (.cells #[.pointer (some t)] 108)) := by
  rw [rl_x79]
  erw [rl_valueOf107]; rfl
theorem e79_108 (t : Addr) (w : World) : (callFunc 60 [Value.iface 109 (.pointer (some t))].toArray).run Tryd.prog w = .ok (.value (valR [.agg [.ptr, .any, .int .u64]] (some ⟨1, 109, none⟩, .pointer (some ⟨w.heap.size, 0, none⟩), 150))) (w.alloc (.cells #[.pointer (some t)] 109)) := by
  rw [rl_x79]
  erw [rl_valueOf108]; rfl
theorem e79_96 (t : Addr) (w : World) : (callFunc 60 [Value.iface 83 (.pointer (some t))].toArray).run Tryd.prog w = .ok (.value (valR [.agg [.ptr, .any, .int .u64]] (some ⟨1, 83, none⟩, .pointer (some ⟨w.heap.size, 0, none⟩), 150))) (w.alloc (.cells #[.pointer (some t)] 83)) := by
  rw [rl_x79]
  erw [rl_valueOf96]; rfl
theorem e79_34 (n : Int) (w : World) : (callFunc 60 [Value.iface 33 (.int .i64 n)].toArray).run Tryd.prog w = .ok (.value (valR [.agg [.ptr, .any, .int .u64]] (some ⟨1, 33, none⟩, .pointer (some ⟨w.heap.size, 0, none⟩), 130))) (w.alloc (.cells #[.int .i64 n] 33)) := by
  rw [rl_x79]
  erw [rl_valueOf34]; rfl
abbrev vv (t : Nat) (a : Addr) (f : Int) : Value := .agg #[.pointer (some ⟨1, t, none⟩), .pointer (some a), .int .u64 f]
theorem e80_107 (a : Addr) (w : World) : (callFunc 61 [vv 108 a 150].toArray).run Tryd.prog w = .ok (.value (valR [.c .any] (tyV 108))) w := by
  rw [rl_x80]
  erw [rl_type107]; rfl
theorem e80_108 (a : Addr) (w : World) : (callFunc 61 [vv 109 a 150].toArray).run Tryd.prog w = .ok (.value (valR [.c .any] (tyV 109))) w := by
  rw [rl_x80]
  erw [rl_type108]; rfl
theorem e81_107 (a p : Addr) (w : World) (h : w.cell? a = some (.pointer (some p))) : (callFunc 62 [vv 108 a 150].toArray).run Tryd.prog w = .ok (.value (valR [.c .bool] false)) w := by
  rw [rl_x81]
  erw [rl_isNil107 a p w h]; rfl
theorem e81_108 (a p : Addr) (w : World) (h : w.cell? a = some (.pointer (some p))) : (callFunc 62 [vv 109 a 150].toArray).run Tryd.prog w = .ok (.value (valR [.c .bool] false)) w := by
  rw [rl_x81]
  erw [rl_isNil108 a p w h]; rfl
theorem e83_96 (v : Value) (w : World) : (callFunc 64 [Value.iface 83 v].toArray).run Tryd.prog w = .ok (.value (valR [.c .any] (tyV 83))) w := by
  rw [rl_x83]
  erw [rl_typeOf96]; rfl
theorem e83_34 (v : Value) (w : World) : (callFunc 64 [Value.iface 33 v].toArray).run Tryd.prog w = .ok (.value (valR [.c .any] (tyV 33))) w := by
  rw [rl_x83]
  erw [rl_typeOf34]; rfl
theorem e96_107 (a p : Addr) (w : World) (h : w.cell? a = some (.pointer (some p))) : (callFunc 73 [vv 108 a 150].toArray).run Tryd.prog w = .ok (.value (valR [.agg [.ptr, .any, .int .u64]] (some ⟨1, 83, none⟩, .pointer (some p), 406))) w := by
  rw [rl_x96]
  erw [rl_elemV107 a p w h]; rfl
theorem e96_108 (a p : Addr) (w : World) (h : w.cell? a = some (.pointer (some p))) : (callFunc 73 [vv 109 a 150].toArray).run Tryd.prog w = .ok (.value (valR [.agg [.ptr, .any, .int .u64]] (some ⟨1, 33, none⟩, .pointer (some p), 386))) w := by
  rw [rl_x96]
  erw [rl_elemV108 a p w h]; rfl
theorem e97_96 (ta b e : Addr) (old : Value) (w : World) (hb : w.cell? b = some (.pointer (some e))) (ht : w.cell? ta = some old) (hf : w.frozen? ta = false) : (callFunc 74 [vv 83 ta 406, vv 83 b 150].toArray).run Tryd.prog w = .ok (.value (valR [] ())) (w.setCell ta (.pointer (some e))) := by
  rw [rl_x97]
  erw [rl_set96 ta b e old w hb ht hf]; rfl
theorem e97_34 (ta b : Addr) (n : Int) (old : Value) (w : World) (hb : w.cell? b = some (.int .i64 n)) (ht : w.cell? ta = some old) (hf : w.frozen? ta = false) : (callFunc 74 [vv 33 ta 386, vv 33 b 130].toArray).run Tryd.prog w = .ok (.value (valR [] ())) (w.setCell ta (.int .i64 n)) := by
  rw [rl_x97]
  erw [rl_set34 ta b n old w hb ht hf]; rfl
theorem mKind_107 {k : Int → Pr} {w : World} (h : k 22 w) : callM Tryd.prog (tyV 108) "Kind" [] [.c (.int .u8)] k w := callM_ext (22 : Int) (rl_mKind _ w) (by rw [rl_x121]; erw [rl_kind107]; rfl) h
theorem mKind_108 {k : Int → Pr} {w : World} (h : k 22 w) : callM Tryd.prog (tyV 109) "Kind" [] [.c (.int .u8)] k w := callM_ext (22 : Int) (rl_mKind _ w) (by rw [rl_x121]; erw [rl_kind108]; rfl) h
theorem mKind_96 {k : Int → Pr} {w : World} (h : k 22 w) : callM Tryd.prog (tyV 83) "Kind" [] [.c (.int .u8)] k w := callM_ext (22 : Int) (rl_mKind _ w) (by rw [rl_x121]; erw [rl_kind96]; rfl) h
theorem mKind_34 {k : Int → Pr} {w : World} (h : k 2 w) : callM Tryd.prog (tyV 33) "Kind" [] [.c (.int .u8)] k w := callM_ext (2 : Int) (rl_mKind _ w) (by rw [rl_x121]; erw [rl_kind34]; rfl) h
theorem mElem_107 {k : Value → Pr} {w : World} (h : k (tyV 83) w) : callM Tryd.prog (tyV 108) "Elem" [] [.c .any] k w := callM_ext (tyV 83) (rl_mElem _ w) (by rw [rl_x133]; erw [rl_elem107]; rfl) h
theorem mElem_108 {k : Value → Pr} {w : World} (h : k (tyV 33) w) : callM Tryd.prog (tyV 109) "Elem" [] [.c .any] k w := callM_ext (tyV 33) (rl_mElem _ w) (by rw [rl_x133]; erw [rl_elem108]; rfl) h
theorem mImpl_96 {k : Bool → Pr} {w : World} (h : k true w) : callM Tryd.prog (tyV 83) "Implements" [tyV 30] [.c .bool] k w := callM_ext true (rl_mImplements _ w) (by rw [rl_x134]; erw [rl_impl96]; rfl) h
theorem mImpl_34 {k : Bool → Pr} {w : World} (h : k true w) : callM Tryd.prog (tyV 33) "Implements" [tyV 30] [.c .bool] k w := callM_ext true (rl_mImplements _ w) (by rw [rl_x134]; erw [rl_impl34]; rfl) h
theorem mAs_9696 {k : Bool → Pr} {w : World} (h : k true w) : callM Tryd.prog (tyV 83) "AssignableTo" [tyV 83] [.c .bool] k w := callM_ext true (rl_mAssignableTo _ w) (by rw [rl_x131]; erw [rl_as9696]; rfl) h
theorem mAs_9634 {k : Bool → Pr} {w : World} (h : k false w) : callM Tryd.prog (tyV 83) "AssignableTo" [tyV 33] [.c .bool] k w := callM_ext false (rl_mAssignableTo _ w) (by rw [rl_x131]; erw [rl_as9634]; rfl) h
theorem mAs_3434 {k : Bool → Pr} {w : World} (h : k true w) : callM Tryd.prog (tyV 33) "AssignableTo" [tyV 33] [.c .bool] k w := callM_ext true (rl_mAssignableTo _ w) (by rw [rl_x131]; erw [rl_as3434]; rfl) h
theorem mComp_34 {k : Bool → Pr} {w : World} (h : k true w) : callM Tryd.prog (tyV 33) "Comparable" [] [.c .bool] k w := callM_ext true (rl_mComparable _ w) (by rw [rl_x132]; erw [rl_comp34]; rfl) h
end Go.Proofs

/-! errors.As and errors.Is at an archive's errors: the walks. -/
set_option maxRecDepth 20000
namespace Go.Proofs
open Go.Eng Go.RowKit Go.Extern.Stop Go.Stop Go.Extern

noncomputable def missB (want : Array (String × TypeId)) (t : TypeId) : Bool := match Tryd.prog.info? t with
  | some i => !(lacking want i.methods).isEmpty
  | none => false
noncomputable def haveB (want : Array (String × TypeId)) (t : TypeId) : Bool := match Tryd.prog.info? t with
  | some i => (Instr.missingMethod want i.methods).isNone
  | none => false
theorem asI_no {want : Array (String × TypeId)} {t : TypeId} {u : Value} {k : Bool → Pr} {w : World} (h : missB want t = true) (hk : k false w) : asI Tryd.prog want (.iface t u) true k w := by
  unfold missB at h
  split at h
  · rename_i i hi
    obtain ⟨m, hm⟩ := missingMethod_some (want := want) (got := i.methods) (by intro he; rw [he] at h; cases h)
    exact ⟨false, .inr ⟨rfl, rfl, .inr ⟨t, u, i, m, rfl, hi, hm⟩⟩, hk⟩
  · cases h
theorem asI_yes {want : Array (String × TypeId)} {t : TypeId} {u : Value} {k : Bool → Pr} {w : World} {ok : Bool} (h : haveB want t = true) (hk : k true w) : asI Tryd.prog want (.iface t u) ok k w := by
  unfold haveB at h
  split at h
  · rename_i i hi
    exact ⟨true, .inl ⟨rfl, t, u, i, rfl, hi, Option.isNone_iff_eq_none.1 h⟩, hk⟩
  · cases h
theorem cell_gro {w w' : World} {v : Value} (h : Grow w w') (hc : w.cell? ⟨0, 0, none⟩ = some v) : w'.cell? ⟨0, 0, none⟩ = some v := by
  rw [cell_of_heap (h.same 0 (World.block_lt_of_cell? w _ hc) (fun h => h))]
  exact hc
theorem mUnwrap_96 {eb : Nat} {at' n : Int} {k : Value → Pr} {w : World} (hb : Box w eb [.int .i64 at', .iface 33 (.int .i64 n)]) (h : k (.iface 33 (.int .i64 n)) w) : callM Tryd.prog (.iface 83 (.pointer (some ⟨eb, 0, none⟩))) "Unwrap" [] [.c .any] k w := by
  refine ⟨83, _, 103, _, rfl, rl_mUnwrap _ w, .inl ⟨by kernel_rfl, ?_⟩⟩
  refine F103_calls (some ⟨eb, 0, none⟩) k w ?_
  unfold F103
  simp only [deref_some']
  exact hb.ld (s := .any) (p := .iface 33 (.int .i64 n)) (i := 1) rfl h

section
variable {w0 W : World} {L : List HA}
theorem v79_107 {t : Addr} {k : (Option Addr) × Value × Int → Pr} (s : St noF w0 W L) (hk : ∀ b W', St noF w0 W' (BoxA b [.pointer (some t)] :: L) → k (some ⟨1, 108, none⟩, .pointer (some ⟨b, 0, none⟩), 150) W') :
    callE Tryd.prog 60 [.iface 108 (.pointer (some t))] [.agg [.ptr, .any, .int .u64]] k W := by
  refine callE_of _ (e79_107 t W) ?_
  show nw (.cells #[.pointer (some t)] 108) (fun b => k (some ⟨1, 108, none⟩, .pointer (some ⟨b, 0, none⟩), 150)) W
  exact St.nw s fun b W' s' _ _ => hk b W' s'
theorem v79_108 {t : Addr} {k : (Option Addr) × Value × Int → Pr} (s : St noF w0 W L) (hk : ∀ b W', St noF w0 W' (BoxA b [.pointer (some t)] :: L) → k (some ⟨1, 109, none⟩, .pointer (some ⟨b, 0, none⟩), 150) W') :
    callE Tryd.prog 60 [.iface 109 (.pointer (some t))] [.agg [.ptr, .any, .int .u64]] k W := by
  refine callE_of _ (e79_108 t W) ?_
  show nw (.cells #[.pointer (some t)] 109) (fun b => k (some ⟨1, 109, none⟩, .pointer (some ⟨b, 0, none⟩), 150)) W
  exact St.nw s fun b W' s' _ _ => hk b W' s'
theorem v79_96 {t : Addr} {k : (Option Addr) × Value × Int → Pr} (s : St noF w0 W L) (hk : ∀ b W', St noF w0 W' (BoxA b [.pointer (some t)] :: L) → k (some ⟨1, 83, none⟩, .pointer (some ⟨b, 0, none⟩), 150) W') :
    callE Tryd.prog 60 [.iface 83 (.pointer (some t))] [.agg [.ptr, .any, .int .u64]] k W := by
  refine callE_of _ (e79_96 t W) ?_
  show nw (.cells #[.pointer (some t)] 83) (fun b => k (some ⟨1, 83, none⟩, .pointer (some ⟨b, 0, none⟩), 150)) W
  exact St.nw s fun b W' s' _ _ => hk b W' s'
theorem v79_34 {n : Int} {k : (Option Addr) × Value × Int → Pr} (s : St noF w0 W L) (hk : ∀ b W', St noF w0 W' (BoxA b [.int .i64 n] :: L) → k (some ⟨1, 33, none⟩, .pointer (some ⟨b, 0, none⟩), 130) W') :
    callE Tryd.prog 60 [.iface 33 (.int .i64 n)] [.agg [.ptr, .any, .int .u64]] k W := by
  refine callE_of _ (e79_34 n W) ?_
  show nw (.cells #[.int .i64 n] 33) (fun b => k (some ⟨1, 33, none⟩, .pointer (some ⟨b, 0, none⟩), 130)) W
  exact St.nw s fun b W' s' _ _ => hk b W' s'
theorem v97_96 {ta b : Nat} {e : Addr} {old : Value} {k : Unit → Pr} (s : St noF w0 W (BoxA ta [old] :: BoxA b [.pointer (some e)] :: L)) (hk : ∀ W', St noF w0 W' (BoxA ta [.pointer (some e)] :: BoxA b [.pointer (some e)] :: L) → k () W') :
    callE Tryd.prog 74 [vv 83 ⟨ta, 0, none⟩ 406, vv 83 ⟨b, 0, none⟩ 150] [] k W := by
  obtain ⟨h1, h2, h3, h4⟩ := s.st (i := 0) (v := .pointer (some e)) (k := k ()) (by simp) trivial fun W' s' => hk W' s'
  exact callE_of () (e97_96 ⟨ta, 0, none⟩ ⟨b, 0, none⟩ e old W (s.bring 1).box.cell0 s.box.cell0 h3) h4
theorem v97_34 {ta b : Nat} {n : Int} {old : Value} {k : Unit → Pr} (s : St noF w0 W (BoxA ta [old] :: BoxA b [.int .i64 n] :: L)) (hk : ∀ W', St noF w0 W' (BoxA ta [.int .i64 n] :: BoxA b [.int .i64 n] :: L) → k () W') :
    callE Tryd.prog 74 [vv 33 ⟨ta, 0, none⟩ 386, vv 33 ⟨b, 0, none⟩ 130] [] k W := by
  obtain ⟨h1, h2, h3, h4⟩ := s.st (i := 0) (v := .int .i64 n) (k := k ()) (by simp) trivial fun W' s' => hk W' s'
  exact callE_of () (e97_34 ⟨ta, 0, none⟩ ⟨b, 0, none⟩ n old W (s.bring 1).box.cell0 s.box.cell0 h3) h4

/-- errors.as, at a fault and a *api.Fault -/
theorem as82_107 {ta eb vb : Nat} {old : Value} {k : Bool → Pr} (s : St noF w0 W (BoxA ta [old] :: BoxA vb [.pointer (some ⟨ta, 0, none⟩)] :: L)) (hk : ∀ W' T, St noF w0 W' (BoxA ta [.pointer (some ⟨eb, 0, none⟩)] :: L ++ T) → k true W') :
    callF Tryd.prog 63 [.iface 83 (.pointer (some ⟨eb, 0, none⟩)), .iface 108 (.pointer (some ⟨ta, 0, none⟩)), vv 108 ⟨vb, 0, none⟩ 150, tyV 83] [.c .bool] k W := by
  refine F63_calls (.iface 83 (.pointer (some ⟨eb, 0, none⟩))) (.iface 108 (.pointer (some ⟨ta, 0, none⟩))) (some ⟨1, 108, none⟩) (.pointer (some ⟨vb, 0, none⟩)) 150 (tyV 83) k W ?_
  unfold F63
  simp only [deref_some']
  refine St.nw s fun r w1 s1 _ _ => ?_
  refine loop_of (fun z W => z = .iface 83 (.pointer (some ⟨eb, 0, none⟩)) ∧ St noF w0 W (BoxA r [.pointer (some ⟨1, 108, none⟩), .pointer (some ⟨vb, 0, none⟩), .int .u64 150] :: BoxA ta [old] :: BoxA vb [.pointer (some ⟨ta, 0, none⟩)] :: L)) (fun _ _ => 0) ⟨rfl, s1⟩ ?_
  rintro _ W2 ⟨rfl, s2⟩
  refine callE_of (tyV 83) (e83_96 _ _) (mAs_9696 ?_)
  refine br_of (fun _ => ?_) fun h => by cases h
  refine Box.ldA (l := [.ptr, .any, .int .u64]) (p := (some ⟨1, 108, none⟩, .pointer (some ⟨vb, 0, none⟩), 150)) s2.box ?_
  refine callE_of _ (e96_107 ⟨vb, 0, none⟩ ⟨ta, 0, none⟩ _ (s2.bring 2).box.cell0) ?_
  refine v79_96 s2 fun b w3 s3 => ?_
  refine v97_96 (old := old) (s3.sel [2, 0, 1, 3] 4) fun w4 s4 => ?_
  refine hk w4 [BoxA b [.pointer (some ⟨eb, 0, none⟩)], BoxA r [.pointer (some ⟨1, 108, none⟩), .pointer (some ⟨vb, 0, none⟩), .int .u64 150], BoxA vb [.pointer (some ⟨ta, 0, none⟩)]] ?_
  have s5 := s4.perm (m := BoxA ta [.pointer (some ⟨eb, 0, none⟩)] :: (L ++ [BoxA b [.pointer (some ⟨eb, 0, none⟩)], BoxA r [.pointer (some ⟨1, 108, none⟩), .pointer (some ⟨vb, 0, none⟩), .int .u64 150], BoxA vb [.pointer (some ⟨ta, 0, none⟩)]])) (List.Perm.cons _ (List.perm_append_comm (l₁ := [_, _, _])))
  exact s5

/-- errors.as, at a fault and a *api.Errno -/
theorem as82_108 {ta eb vb : Nat} {at' n : Int} {old : Value} {k : Bool → Pr} (s : St noF w0 W (BoxA ta [old] :: BoxA vb [.pointer (some ⟨ta, 0, none⟩)] :: BadA eb at' n :: L)) (hk : ∀ W' T, St noF w0 W' (BoxA ta [.int .i64 n] :: BadA eb at' n :: L ++ T) → k true W') :
    callF Tryd.prog 63 [.iface 83 (.pointer (some ⟨eb, 0, none⟩)), .iface 109 (.pointer (some ⟨ta, 0, none⟩)), vv 109 ⟨vb, 0, none⟩ 150, tyV 33] [.c .bool] k W := by
  refine F63_calls (.iface 83 (.pointer (some ⟨eb, 0, none⟩))) (.iface 109 (.pointer (some ⟨ta, 0, none⟩))) (some ⟨1, 109, none⟩) (.pointer (some ⟨vb, 0, none⟩)) 150 (tyV 33) k W ?_
  unfold F63
  simp only [deref_some']
  refine St.nw s fun r w1 s1 _ _ => ?_
  refine loop_of (fun z W => (z = .iface 83 (.pointer (some ⟨eb, 0, none⟩)) ∨ z = .iface 33 (.int .i64 n)) ∧ St noF w0 W (BoxA r [.pointer (some ⟨1, 109, none⟩), .pointer (some ⟨vb, 0, none⟩), .int .u64 150] :: BoxA ta [old] :: BoxA vb [.pointer (some ⟨ta, 0, none⟩)] :: BadA eb at' n :: L)) (fun z _ => match z with | .iface 83 _ => 1 | _ => 0) ⟨.inl rfl, s1⟩ ?_
  rintro _ W2 ⟨rfl | rfl, s2⟩
  · refine callE_of (tyV 83) (e83_96 _ _) (mAs_9634 ?_)
    refine br_of (fun h => by cases h) fun _ => ?_
    refine asI_no (by kernel_rfl) ?_
    refine jn_of (fun s' W' => s' = false ∧ W' = W2) (br_of (fun h => by cases h) fun _ => ⟨rfl, rfl⟩) ?_
    rintro _ _ ⟨rfl, rfl⟩
    refine br_of (fun h => by cases h) fun _ => ?_
    refine asI_yes (by kernel_rfl) ?_
    refine br_of (fun _ => ?_) fun h => by cases h
    refine mUnwrap_96 (s2.bring 3).box ⟨trivial, ?_⟩
    refine br_of (fun h => by cases h) fun _ => ?_
    exact ⟨⟨.inr rfl, s2⟩, Nat.zero_lt_one⟩
  · refine callE_of (tyV 33) (e83_34 _ _) (mAs_3434 ?_)
    refine br_of (fun _ => ?_) fun h => by cases h
    refine Box.ldA (l := [.ptr, .any, .int .u64]) (p := (some ⟨1, 109, none⟩, .pointer (some ⟨vb, 0, none⟩), 150)) s2.box ?_
    refine callE_of _ (e96_108 ⟨vb, 0, none⟩ ⟨ta, 0, none⟩ _ (s2.bring 2).box.cell0) ?_
    refine v79_34 s2 fun b w3 s3 => ?_
    refine v97_34 (old := old) (s3.sel [2, 0, 1, 3, 4] 5) fun w4 s4 => ?_
    refine hk w4 [BoxA b [.int .i64 n], BoxA r [.pointer (some ⟨1, 109, none⟩), .pointer (some ⟨vb, 0, none⟩), .int .u64 150], BoxA vb [.pointer (some ⟨ta, 0, none⟩)]] ?_
    have s5 := s4.perm (m := BoxA ta [.int .i64 n] :: ((BadA eb at' n :: L) ++ [BoxA b [.int .i64 n], BoxA r [.pointer (some ⟨1, 109, none⟩), .pointer (some ⟨vb, 0, none⟩), .int .u64 150], BoxA vb [.pointer (some ⟨ta, 0, none⟩)]])) (List.Perm.cons _ (List.perm_append_comm (l₁ := [_, _, _])))
    exact s5

/-- errors.As at a fault and a *api.Fault -/
theorem as55_107 {ta eb : Nat} {old : Value} {k : Bool → Pr} (hg : w0.cell? ⟨0, 0, none⟩ = some (tyV 30)) (s : St noF w0 W (BoxA ta [old] :: L)) (hk : ∀ W' T, St noF w0 W' (BoxA ta [.pointer (some ⟨eb, 0, none⟩)] :: L ++ T) → k true W') :
    callF Tryd.prog 49 [.iface 83 (.pointer (some ⟨eb, 0, none⟩)), .iface 108 (.pointer (some ⟨ta, 0, none⟩))] [.c .bool] k W := by
  refine F49_calls (.iface 83 (.pointer (some ⟨eb, 0, none⟩))) (.iface 108 (.pointer (some ⟨ta, 0, none⟩))) k W ?_
  unfold F49
  simp only [deref_some']
  refine ⟨trivial, br_of (fun h => by cases h) fun _ => ?_⟩
  refine jn_of (fun _ W' => W' = W) ⟨trivial, br_of (fun h => by cases h) fun _ => rfl⟩ ?_
  rintro _ _ rfl
  refine v79_107 s fun b w1 s1 => ?_
  refine St.nw s1 fun r w2 s2 _ _ => s2.st (i := 0) (by simp) trivial fun w3 s3 => s3.st (i := 1) (by simp) trivial fun w4 s4 => s4.st (i := 2) (by simp) trivial fun w5 s5 => ?_
  have s5 : St noF w0 w5 (BoxA r [.pointer (some ⟨1, 108, none⟩), .pointer (some ⟨b, 0, none⟩), .int .u64 150] :: BoxA b [.pointer (some ⟨ta, 0, none⟩)] :: BoxA ta [old] :: L) := s5
  refine Box.ldA (l := [.ptr, .any, .int .u64]) (p := (some ⟨1, 108, none⟩, .pointer (some ⟨b, 0, none⟩), 150)) s5.box ?_
  refine callE_of (tyV 108) (e80_107 _ _) ?_
  refine jn_of (fun _ W' => St noF w0 W' (BoxA r [.pointer (some ⟨1, 108, none⟩), .pointer (some ⟨b, 0, none⟩), .int .u64 150] :: BoxA b [.pointer (some ⟨ta, 0, none⟩)] :: BoxA ta [old] :: L)) ?_ ?_
  · refine jn_of (fun s' W' => s' = false ∧ St noF w0 W' (BoxA r [.pointer (some ⟨1, 108, none⟩), .pointer (some ⟨b, 0, none⟩), .int .u64 150] :: BoxA b [.pointer (some ⟨ta, 0, none⟩)] :: BoxA ta [old] :: L)) ?_ ?_
    · refine mKind_107 (br_of (fun h => by cases h) fun _ => ?_)
      refine Box.ldA (l := [.ptr, .any, .int .u64]) (p := (some ⟨1, 108, none⟩, .pointer (some ⟨b, 0, none⟩), 150)) s5.box ?_
      exact callE_of false (e81_107 ⟨b, 0, none⟩ _ _ (s5.bring 1).box.cell0) ⟨rfl, s5⟩
    · rintro _ W' ⟨rfl, s6⟩
      exact br_of (fun h => by cases h) fun _ => s6
  intro _ w6 s6
  refine mElem_107 ?_
  refine jn_of (fun _ W' => St noF w0 W' (BoxA r [.pointer (some ⟨1, 108, none⟩), .pointer (some ⟨b, 0, none⟩), .int .u64 150] :: BoxA b [.pointer (some ⟨ta, 0, none⟩)] :: BoxA ta [old] :: L)) ?_ ?_
  · refine jn_of (fun s' W' => s' = false ∧ St noF w0 W' (BoxA r [.pointer (some ⟨1, 108, none⟩), .pointer (some ⟨b, 0, none⟩), .int .u64 150] :: BoxA b [.pointer (some ⟨ta, 0, none⟩)] :: BoxA ta [old] :: L)) ?_ ?_
    · refine mKind_96 (br_of (fun _ => ?_) fun h => by cases h)
      refine ldC_of (s := .any) (p := tyV 30) (cell_gro s6.gro hg) ?_
      exact mImpl_96 ⟨rfl, s6⟩
    · rintro _ W' ⟨rfl, s7⟩
      exact br_of (fun h => by cases h) fun _ => s7
  intro _ w7 s7
  refine Box.ldA (l := [.ptr, .any, .int .u64]) (p := (some ⟨1, 108, none⟩, .pointer (some ⟨b, 0, none⟩), 150)) s7.box ?_
  refine as82_107 (s7.sel [2, 1, 0] 3) fun W' T s' => ?_
  refine hk W' (BoxA r [.pointer (some ⟨1, 108, none⟩), .pointer (some ⟨b, 0, none⟩), .int .u64 150] :: T) ?_
  have s8 : St noF w0 W' (BoxA ta [.pointer (some ⟨eb, 0, none⟩)] :: BoxA r [.pointer (some ⟨1, 108, none⟩), .pointer (some ⟨b, 0, none⟩), .int .u64 150] :: (L ++ T)) := s'
  exact s8.perm (List.Perm.cons _ List.perm_middle.symm)

/-- errors.As at a fault and a *api.Errno -/
theorem as55_108 {ta eb : Nat} {at' n : Int} {old : Value} {k : Bool → Pr} (hg : w0.cell? ⟨0, 0, none⟩ = some (tyV 30)) (s : St noF w0 W (BoxA ta [old] :: BadA eb at' n :: L)) (hk : ∀ W' T, St noF w0 W' (BoxA ta [.int .i64 n] :: BadA eb at' n :: L ++ T) → k true W') :
    callF Tryd.prog 49 [.iface 83 (.pointer (some ⟨eb, 0, none⟩)), .iface 109 (.pointer (some ⟨ta, 0, none⟩))] [.c .bool] k W := by
  refine F49_calls (.iface 83 (.pointer (some ⟨eb, 0, none⟩))) (.iface 109 (.pointer (some ⟨ta, 0, none⟩))) k W ?_
  unfold F49
  simp only [deref_some']
  refine ⟨trivial, br_of (fun h => by cases h) fun _ => ?_⟩
  refine jn_of (fun _ W' => W' = W) ⟨trivial, br_of (fun h => by cases h) fun _ => rfl⟩ ?_
  rintro _ _ rfl
  refine v79_108 s fun b w1 s1 => ?_
  refine St.nw s1 fun r w2 s2 _ _ => s2.st (i := 0) (by simp) trivial fun w3 s3 => s3.st (i := 1) (by simp) trivial fun w4 s4 => s4.st (i := 2) (by simp) trivial fun w5 s5 => ?_
  have s5 : St noF w0 w5 (BoxA r [.pointer (some ⟨1, 109, none⟩), .pointer (some ⟨b, 0, none⟩), .int .u64 150] :: BoxA b [.pointer (some ⟨ta, 0, none⟩)] :: BoxA ta [old] :: BadA eb at' n :: L) := s5
  refine Box.ldA (l := [.ptr, .any, .int .u64]) (p := (some ⟨1, 109, none⟩, .pointer (some ⟨b, 0, none⟩), 150)) s5.box ?_
  refine callE_of (tyV 109) (e80_108 _ _) ?_
  refine jn_of (fun _ W' => St noF w0 W' (BoxA r [.pointer (some ⟨1, 109, none⟩), .pointer (some ⟨b, 0, none⟩), .int .u64 150] :: BoxA b [.pointer (some ⟨ta, 0, none⟩)] :: BoxA ta [old] :: BadA eb at' n :: L)) ?_ ?_
  · refine jn_of (fun s' W' => s' = false ∧ St noF w0 W' (BoxA r [.pointer (some ⟨1, 109, none⟩), .pointer (some ⟨b, 0, none⟩), .int .u64 150] :: BoxA b [.pointer (some ⟨ta, 0, none⟩)] :: BoxA ta [old] :: BadA eb at' n :: L)) ?_ ?_
    · refine mKind_108 (br_of (fun h => by cases h) fun _ => ?_)
      refine Box.ldA (l := [.ptr, .any, .int .u64]) (p := (some ⟨1, 109, none⟩, .pointer (some ⟨b, 0, none⟩), 150)) s5.box ?_
      exact callE_of false (e81_108 ⟨b, 0, none⟩ _ _ (s5.bring 1).box.cell0) ⟨rfl, s5⟩
    · rintro _ W' ⟨rfl, s6⟩
      exact br_of (fun h => by cases h) fun _ => s6
  intro _ w6 s6
  refine mElem_108 ?_
  refine jn_of (fun _ W' => St noF w0 W' (BoxA r [.pointer (some ⟨1, 109, none⟩), .pointer (some ⟨b, 0, none⟩), .int .u64 150] :: BoxA b [.pointer (some ⟨ta, 0, none⟩)] :: BoxA ta [old] :: BadA eb at' n :: L)) ?_ ?_
  · refine jn_of (fun s' W' => s' = false ∧ St noF w0 W' (BoxA r [.pointer (some ⟨1, 109, none⟩), .pointer (some ⟨b, 0, none⟩), .int .u64 150] :: BoxA b [.pointer (some ⟨ta, 0, none⟩)] :: BoxA ta [old] :: BadA eb at' n :: L)) ?_ ?_
    · refine mKind_34 (br_of (fun _ => ?_) fun h => by cases h)
      refine ldC_of (s := .any) (p := tyV 30) (cell_gro s6.gro hg) ?_
      exact mImpl_34 ⟨rfl, s6⟩
    · rintro _ W' ⟨rfl, s7⟩
      exact br_of (fun h => by cases h) fun _ => s7
  intro _ w7 s7
  refine Box.ldA (l := [.ptr, .any, .int .u64]) (p := (some ⟨1, 109, none⟩, .pointer (some ⟨b, 0, none⟩), 150)) s7.box ?_
  refine as82_108 (s7.sel [2, 1, 3, 0] 4) fun W' T s' => ?_
  refine hk W' (BoxA r [.pointer (some ⟨1, 109, none⟩), .pointer (some ⟨b, 0, none⟩), .int .u64 150] :: T) ?_
  have s8 : St noF w0 W' (BoxA ta [.int .i64 n] :: BadA eb at' n :: BoxA r [.pointer (some ⟨1, 109, none⟩), .pointer (some ⟨b, 0, none⟩), .int .u64 150] :: (L ++ T)) := s'
  exact s8.perm (List.Perm.cons _ (List.Perm.cons _ List.perm_middle.symm))
end
end Go.Proofs

/-! errors.Is; what an error says. -/
set_option maxRecDepth 20000
namespace Go.Proofs
open Go.Eng Go.RowKit Go.Extern.Stop Go.Stop Go.Extern

theorem comp34 : (match Tryd.prog.info? 33 with | some i => i.comparable | none => false) = true := by kernel_rfl
theorem ceqI_34 {a c : Int} {k : Bool → Pr} {w : World} (h : k (a == c) w) : ceqI Tryd.prog (.iface 33 (.int .i64 a)) (.iface 33 (.int .i64 c)) k w := by
  have hc := comp34
  split at hc
  · rename_i i hi
    exact ⟨33, _, 33, _, rfl, rfl, (a == c), .inr ⟨rfl, i, .i64, a, c, hi, hc, Tryd.underlying33, rfl, rfl, rfl⟩, h⟩
  · cases hc
theorem ceqI_96 {u v : Value} {k : Bool → Pr} {w : World} (h : k false w) : ceqI Tryd.prog (.iface 83 u) (.iface 33 v) k w :=
  ⟨83, u, 33, v, rfl, rfl, false, .inl ⟨by decide, rfl⟩, h⟩

section
variable {w0 W : World} {L : List HA}
theorem is84 {eb : Nat} {at' n : Int} {k : Bool → Pr} (s : St noF w0 W (BadA eb at' n :: L)) (hk : ∀ W', St noF w0 W' (BadA eb at' n :: L) → k true W') :
    callF Tryd.prog 65 [.iface 83 (.pointer (some ⟨eb, 0, none⟩)), .iface 33 (.int .i64 n), .bool true] [.c .bool] k W := by
  refine F65_calls (.iface 83 (.pointer (some ⟨eb, 0, none⟩))) (.iface 33 (.int .i64 n)) true k W ?_
  unfold F65
  simp only [deref_some']
  refine loop_of (fun z W => (z = .iface 83 (.pointer (some ⟨eb, 0, none⟩)) ∨ z = .iface 33 (.int .i64 n)) ∧ St noF w0 W (BadA eb at' n :: L)) (fun z _ => match z with | .iface 83 _ => 1 | _ => 0) ⟨.inl rfl, s⟩ ?_
  rintro _ W2 ⟨rfl | rfl, s2⟩
  · refine jn_of (fun s' W' => s' = false ∧ St noF w0 W' (BadA eb at' n :: L)) (br_of (fun _ => ceqI_96 ⟨rfl, s2⟩) fun h => by cases h) ?_
    rintro _ W3 ⟨rfl, s3⟩
    refine br_of (fun h => by cases h) fun _ => ?_
    refine asI_no (by kernel_rfl) ?_
    refine jn_of (fun s' W' => s' = false ∧ St noF w0 W' (BadA eb at' n :: L)) (br_of (fun h => by cases h) fun _ => ⟨rfl, s3⟩) ?_
    rintro _ W4 ⟨rfl, s4⟩
    refine br_of (fun h => by cases h) fun _ => ?_
    refine asI_yes (by kernel_rfl) ?_
    refine br_of (fun _ => ?_) fun h => by cases h
    refine mUnwrap_96 s4.box ⟨trivial, ?_⟩
    refine br_of (fun h => by cases h) fun _ => ?_
    exact ⟨⟨.inr rfl, s4⟩, Nat.zero_lt_one⟩
  · refine jn_of (fun s' W' => s' = true ∧ St noF w0 W' (BadA eb at' n :: L)) (br_of (fun _ => ceqI_34 ⟨by simp, s2⟩) fun h => by cases h) ?_
    rintro _ W3 ⟨rfl, s3⟩
    exact br_of (fun _ => hk W3 s3) fun h => by cases h

theorem is56 {eb : Nat} {at' n : Int} {k : Bool → Pr} (s : St noF w0 W (BadA eb at' n :: L)) (hk : ∀ W', St noF w0 W' (BadA eb at' n :: L) → k true W') :
    callF Tryd.prog 50 [.iface 83 (.pointer (some ⟨eb, 0, none⟩)), .iface 33 (.int .i64 n)] [.c .bool] k W := by
  refine F50_calls (.iface 83 (.pointer (some ⟨eb, 0, none⟩))) (.iface 33 (.int .i64 n)) k W ?_
  unfold F50
  refine jn_of (fun s' W' => s' = false ∧ St noF w0 W' (BadA eb at' n :: L)) ⟨trivial, br_of (fun h => by cases h) fun _ => ⟨trivial, rfl, s⟩⟩ ?_
  rintro _ W3 ⟨rfl, s3⟩
  refine br_of (fun h => by cases h) fun _ => ?_
  refine callE_of (tyV 33) (e83_34 _ _) (mComp_34 ?_)
  exact is84 s3 hk

/-- what is said of an error -/
theorem seen29_nil {k : (Int × Int) × Bool → Pr} (s : St noF w0 W L) (hk : ∀ W', St noF w0 W' L → k ((0, 0), true) W') : callF Tryd.prog 31 [.nilIface] [.agg [.int .i64, .int .i64], .c .bool] k W := by
  refine F31_calls .nilIface k W ?_
  unfold F31
  simp only [deref_some']
  refine St.nw s fun r w1 s1 _ _ => ⟨trivial, br_of (fun _ => ?_) fun h => by cases h⟩
  refine s1.st (i := 0) (by simp) trivial fun w2 s2 => s2.st (i := 1) (by simp) trivial fun w3 s3 => ?_
  refine Box.ldA (l := [.int .i64, .int .i64]) (p := (0, 0)) s3.box ?_
  exact hk w3 s3.drop

theorem seen29 {eb : Nat} {at' n : Int} {k : (Int × Int) × Bool → Pr} (hg : w0.cell? ⟨0, 0, none⟩ = some (tyV 30)) (hn : n ≠ 0) (s : St noF w0 W (BadA eb at' n :: L)) (hk : ∀ W', St noF w0 W' (BadA eb at' n :: L) → k ((at', n), true) W') :
    callF Tryd.prog 31 [.iface 83 (.pointer (some ⟨eb, 0, none⟩))] [.agg [.int .i64, .int .i64], .c .bool] k W := by
  refine F31_calls (.iface 83 (.pointer (some ⟨eb, 0, none⟩))) k W ?_
  unfold F31
  simp only [deref_some']
  refine St.nw s fun r w1 s1 _ _ => ⟨trivial, br_of (fun h => by cases h) fun _ => ⟨trivial, St.nw s1 fun r1 w2 s2 _ _ => ⟨trivial, St.nw s2 fun r2 w3 s3 _ _ => ?_⟩⟩⟩
  have s3 : St noF w0 w3 (BoxA r1 [.pointer none] :: BoxA r2 [.int .i64 0] :: BadA eb at' n :: BoxA r [.int .i64 0, .int .i64 0] :: L) := s3.sel [1, 0, 3, 2] 4
  refine jn_of (fun s' W' => s' = false ∧ ∃ T, St noF w0 W' (BoxA r1 [.pointer (some ⟨eb, 0, none⟩)] :: BoxA r2 [.int .i64 n] :: BadA eb at' n :: BoxA r [.int .i64 0, .int .i64 0] :: (L ++ T))) ?_ ?_
  · refine as55_107 hg s3 fun w4 T s4 => ?_
    refine br_of (fun h => by cases h) fun _ => ?_
    have s4 : St noF w0 w4 (BoxA r1 [.pointer (some ⟨eb, 0, none⟩)] :: BoxA r2 [.int .i64 0] :: BadA eb at' n :: BoxA r [.int .i64 0, .int .i64 0] :: (L ++ T)) := s4
    refine s4.ld0 (s := .ptr) (p := some ⟨eb, 0, none⟩) rfl ⟨trivial, ?_⟩
    refine br_of (fun h => by cases h) fun _ => ?_
    refine as55_108 hg (s4.sel [1, 2, 0, 3] 4) fun w5 T2 s5 => ?_
    refine br_of (fun h => by cases h) fun _ => ?_
    have s5 : St noF w0 w5 (BoxA r2 [.int .i64 n] :: BadA eb at' n :: BoxA r1 [.pointer (some ⟨eb, 0, none⟩)] :: BoxA r [.int .i64 0, .int .i64 0] :: (L ++ T ++ T2)) := s5
    refine s5.ld0 (s := .int .i64) (p := n) rfl ?_
    refine br_of (fun h => absurd (by simpa using h) hn) fun _ => ?_
    refine s5.ld0 (s := .int .i64) (p := n) rfl ?_
    refine is56 (s5.bring 1) fun w6 s6 => ⟨rfl, T ++ T2, ?_⟩
    have s6 := s6.sel [2, 1, 0, 3] 4
    rw [← List.append_assoc]
    exact s6
  · rintro _ W' ⟨rfl, T, s6⟩
    refine br_of (fun h => by cases h) fun _ => ?_
    rw [drw_def]
    have s7 := s6.drew
    refine s7.ld0 (s := .ptr) (p := some ⟨eb, 0, none⟩) rfl ?_
    simp only [deref_some']
    refine (s7.bring 2).ld (i := 0) (s := .int .i64) (p := at') rfl ?_
    refine (s7.bring 1).ld0 (s := .int .i64) (p := n) rfl ?_
    refine (s7.bring 3).st (i := 0) (by simp) trivial fun w8 s8 => s8.st (i := 1) (by simp) trivial fun w9 s9 => ?_
    refine Box.ldA (l := [.int .i64, .int .i64]) (p := (at', n)) s9.box ?_
    refine hk w9 ?_
    have s10 : St noF w0 w9 ((BadA eb at' n :: L) ++ (BoxA r [.int .i64 at', .int .i64 n] :: BoxA r1 [.pointer (some ⟨eb, 0, none⟩)] :: BoxA r2 [.int .i64 n] :: T)) := by
      have s11 : St noF w0 w9 (BadA eb at' n :: BoxA r [.int .i64 at', .int .i64 n] :: BoxA r1 [.pointer (some ⟨eb, 0, none⟩)] :: BoxA r2 [.int .i64 n] :: (L ++ T)) := s9.sel [3, 0, 1, 2] 4
      refine s11.perm (List.Perm.cons _ ?_)
      have : ([BoxA r [.int .i64 at', .int .i64 n], BoxA r1 [.pointer (some ⟨eb, 0, none⟩)], BoxA r2 [.int .i64 n]] ++ (L ++ T)).Perm (L ++ ([BoxA r [.int .i64 at', .int .i64 n], BoxA r1 [.pointer (some ⟨eb, 0, none⟩)], BoxA r2 [.int .i64 n]] ++ T)) := by
        rw [← List.append_assoc, ← List.append_assoc]
        exact List.Perm.append_right T List.perm_append_comm
      exact this
    exact s10.dropR

/-- is an error what it must be? -/
theorem is13_nil {e n : Int} {k : Bool → Pr} (s : St noF w0 W L) (hk : ∀ W', St noF w0 W' L → k (decide ((0, 0) = (e, n))) W') : callF Tryd.prog 14 [.nilIface, .agg #[.int .i64 e, .int .i64 n]] [.c .bool] k W := by
  refine F14_calls .nilIface e n k W ?_
  unfold F14
  simp only [deref_some']
  refine St.nw s fun r w1 s1 _ _ => seen29_nil s1 fun w2 s2 => ?_
  refine St.nw s2 fun r1 w3 s3 _ _ => s3.st (i := 0) (by simp) trivial fun w4 s4 => s4.st (i := 1) (by simp) trivial fun w5 s5 => ?_
  refine br_of (fun _ => ?_) fun h => by cases h
  refine Box.ldA (l := [.int .i64, .int .i64]) (p := (0, 0)) s5.box ?_
  refine Box.ldA (l := [.int .i64, .int .i64]) (p := (e, n)) (s5.bring 1).box ?_
  have h := hk w5 s5.drop.drop
  have e' : decide (((0 : Int), (0 : Int)) = (e, n)) = ((0 : Int) == e && ((0 : Int) == n && true)) := by
    rw [Bool.eq_iff_iff]; simp
  rw [e'] at h
  exact h
theorem is13 {eb : Nat} {at' n e n' : Int} {k : Bool → Pr} (hg : w0.cell? ⟨0, 0, none⟩ = some (tyV 30)) (hn : n ≠ 0) (s : St noF w0 W (BadA eb at' n :: L)) (hk : ∀ W', St noF w0 W' (BadA eb at' n :: L) → k (decide ((at', n) = (e, n'))) W') :
    callF Tryd.prog 14 [.iface 83 (.pointer (some ⟨eb, 0, none⟩)), .agg #[.int .i64 e, .int .i64 n']] [.c .bool] k W := by
  refine F14_calls (.iface 83 (.pointer (some ⟨eb, 0, none⟩))) e n' k W ?_
  unfold F14
  simp only [deref_some']
  refine St.nw s fun r w1 s1 _ _ => seen29 hg hn (s1.bring 1) fun w2 s2 => ?_
  refine St.nw s2 fun r1 w3 s3 _ _ => s3.st (i := 0) (by simp) trivial fun w4 s4 => s4.st (i := 1) (by simp) trivial fun w5 s5 => ?_
  refine br_of (fun _ => ?_) fun h => by cases h
  refine Box.ldA (l := [.int .i64, .int .i64]) (p := (at', n)) s5.box ?_
  refine Box.ldA (l := [.int .i64, .int .i64]) (p := (e, n')) (s5.bring 2).box ?_
  have h := hk w5 (s5.sel [1, 3] 4 |> fun s => by first | exact s | exact (s5.bring 2).drop.drop)
  have e' : decide ((at', n) = (e, n')) = (at' == e && (n == n' && true)) := by
    rw [Bool.eq_iff_iff]; simp
  rw [e'] at h
  exact h
end
end Go.Proofs
