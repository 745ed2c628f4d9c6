import Derived.Test.YtiebhappinojmaaGreatX1
import Derived.Test.YtiebhappinojmaaGreatX2
import Derived.Test.YtiebhappinojmaaGreatX3
import Derived.Test.YtiebhappinojmaaGreatX4
import Derived.Test.YtiebhappinojmaaGreatX5
import Derived.Below
import GoSem.Claim
import Derived.OpenShut
import Derived.ChangeAt
import Derived.ChangeSlices
import Derived.Deep.Slices
set_option linter.unusedVariables false
set_option linter.unusedSimpArgs false
set_option linter.unusedSectionVars false
set_option maxRecDepth 20000
namespace Go.Proofs
open Go.Eng
section
variable {g : Geo} {dp x z N k : Nat} {a b m p2 : Sl} {busy : Bool} {A : List (List UInt8)} {M : Option (List (List UInt8))} {D : DM} {pl : List UInt8} {p1 : Int} {w w0 : World} {F0 : Nat → Prop} {L : List HA}
theorem Upon.P {T : TM} {C : Int → List UInt8} (h : Upon g k N A M T C) (hg : geoE g = 0) : T.P = planT g := by
  rw [h.live.up.ok.P, h.g]
  unfold ofG; rw [if_pos hg]
theorem Upon.page {T : TM} {C : Int → List UInt8} (h : Upon g k N A M T C) {i : Int} (hi : usableS T.P i) : T.page i = C i := by
  unfold TM.page
  rw [h.pg]
  exact h.live.rd i hi
theorem CA_at {A : List (List UInt8)} {i : Nat} (h : i < A.length) : A[i]? = some (CA A i) := by
  unfold CA
  rw [Int.toNat_natCast, List.getElem?_eq_getElem h]; rfl
theorem upW {K : Bool → Pr} (hg : geoE g = 0) (h : St F0 w0 w (BoxA z (wC g (planT g) dp x a b m busy) :: DiskA dp D :: RowsA a A :: MayA m M :: L)) (hA : Fits g A) (hM : ∀ l, M = some l → Fits g l) (hD : DB N D) (hN : N ≤ 800000) (ho : D.off = true) (hw : D.wait = []) (har : D.armed = 0) {C : Int → List UInt8} (hC : OneOf A M C) (hgd : Good D g k C) (hk : k ≤ 10000000) (hr : Rd w0 F0 p2 pl) (hpl : pl.length ≤ 1000000) (hp1 : 0 ≤ p1 ∧ p1 ≤ 9223372036854775807)
    (hK : ∀ x' a' b' A' T N' w', Upon g (k + 2) (N + 4200) A' none T (CA A') → Fits g A' → N' ≤ 10000 → St F0 w0 w' (BoxA z (wC g (planT g) dp x' a' b' ⟨none, 0, 0⟩ false) :: TxA x' dp N' T :: DiskA dp T.D :: RowsA a' A' :: L) → (A' = A ∨ M = some A') → K true w') :
    callF Tryz.prog 52 [P0 z, iv p1, slV p2] [.c .bool] K w := by
  refine callF_of (post := K) (F52_calls _ _ _ _ _ ?_) fun _ _ h => h
  unfold F52
  have hgl := geo_le hg
  rw [deref_some']
  refine h.S 0 rfl (by simp) trivial fun w1 s1 => ?_
  have s1 : St F0 w0 w1 (BoxA z (wC g (planT g) dp x a b m false) :: DiskA dp D :: RowsA a A :: MayA m M :: L) := s1
  refine jn_of (fun _ W => ∃ x' T, Upon g (k + 2) (N + 4200) A M T C ∧ St F0 w0 W (BoxA z (wC g (planT g) dp x' a b m false) :: TxA x' dp 0 T :: DiskA dp T.D :: RowsA a A :: MayA m M :: L)) ?_ ?_
  · exact upW1 (K := fun _ W => ∃ x' T, Upon g (k + 2) (N + 4200) A M T C ∧ St F0 w0 W (BoxA z (wC g (planT g) dp x' a b m false) :: TxA x' dp 0 T :: DiskA dp T.D :: RowsA a A :: MayA m M :: L)) (Kf := K false) hg s1 hD hN ho hw har hC hgd hk hr hpl hp1 fun x' T w' hu s => ⟨x', T, hu, s⟩
  rintro _ W ⟨x', T, hu, s2⟩
  have hP := hu.P hg
  have hAl := hA.len
  have hwl : T.D.wait.length ≤ 10000000 := by have := hu.db.bd.wait; omega
  have rest : ∀ {a' b' : Sl} {A' : List (List UInt8)} {N' : Nat} {W' : World}, Fits g A' → (∀ i, usableS T.P i → CA A' i = C i) → (A' = A ∨ M = some A') → N' ≤ 5000 → St F0 w0 W' (BoxA z (wC g (planT g) dp x' a' b' m false) :: TxA x' dp N' T :: DiskA dp T.D :: RowsA a' A' :: L) →
      (deref (some ⟨z, 0, none⟩) fun a_39 =>
        Eng.st (a_39.add 14) (.slice none 0 0) <|
        deref (some ⟨z, 0, none⟩) fun a_42 =>
        ldC .slice (a_42.add 12) fun t122 =>
        callF Tryz.prog 16 [(.pointer (some ⟨z, 0, none⟩)), (slV t122)] [.c .bool] fun (t123 : Bool) =>
        K t123) W' := fun {a' b' A' N' W'} hA' hCA hor hN' s => by
    rw [deref_some']
    refine s.S 0 rfl (by simp) (by simp) fun w3 s3 => ?_
    have s3 : St F0 w0 w3 (BoxA z (wC g T.P dp x' a' b' ⟨none, 0, 0⟩ false) :: TxA x' dp N' T :: DiskA dp T.D :: RowsA a' A' :: L) := by rw [hP]; exact s3
    rw [deref_some']
    refine s3.L 0 rfl (p := a') rfl ?_
    have hAl' := hA'.len
    refine readsC s3 hu.live.up (by omega) hwl (by omega) fun w4 s4 => ?_
    have hall : (decide (∀ i : Nat, i < A'.length → usableS T.P i → A'[i]? = some (T.page i))) = true := decide_eq_true fun i hi hus => by rw [hu.page hus, ← hCA i hus]; exact CA_at hi
    rw [hall]
    rw [hP] at s4
    exact hK x' a' b' A' T _ w4 ⟨hu.live.congr hCA, hu.g, hu.db, .inl rfl, hu.idle, hu.pg, hu.c0⟩ hA' (by omega) s4 hor
  refine jn_of (fun _ W' => ∃ (a' b' : Sl) (A' : List (List UInt8)) (N' : Nat), Fits g A' ∧ (∀ i, usableS T.P i → CA A' i = C i) ∧ (A' = A ∨ M = some A') ∧ N' ≤ 5000 ∧ St F0 w0 W' (BoxA z (wC g (planT g) dp x' a' b' m false) :: TxA x' dp N' T :: DiskA dp T.D :: RowsA a' A' :: L)) ?_ ?_
  rotate_left
  · rintro _ W' ⟨a', b', A', N', h1, h2, h3, h4, h5⟩
    exact rest h1 h2 h3 h4 h5
  cases M with
  | none =>
    have hm : m = ⟨none, 0, 0⟩ ∧ St F0 w0 W (BoxA z (wC g (planT g) dp x' a b m false) :: TxA x' dp 0 T :: DiskA dp T.D :: RowsA a A :: L) := by
      obtain ⟨h1, h2⟩ := (s2.sel [4, 0, 1, 2, 3] 5).p
      exact ⟨h1, h2⟩
    obtain ⟨hm, s3⟩ := hm
    have hCe : C = CA A := by
      rcases hC with h | ⟨l, h, _⟩
      · exact h
      · cases h
    refine jn_of (fun c W' => c = false ∧ W = W') ?_ ?_
    · rw [deref_some']
      refine s3.L 0 rfl (p := m) rfl ?_
      rw [hm]
      exact ⟨trivial, br_f rfl ⟨rfl, rfl⟩⟩
    rintro _ _ ⟨rfl, rfl⟩
    exact br_f rfl ⟨a, b, A, 0, hA, fun i _ => by rw [hCe], .inl rfl, by omega, s3⟩
  | some l =>
    have hl := hM l rfl
    have s3 : St F0 w0 W (BoxA z (wC g (planT g) dp x' a b m false) :: TxA x' dp 0 T :: DiskA dp T.D :: RowsA a A :: RowsA m l :: L) := s2
    have hml := rowsLen (s3.sel [4] 5)
    have hll := hl.len
    have hms : m.a.isNone = false := by
      obtain ⟨bl, hb, h5⟩ := rowsOpen (s3.sel [4] 5)
      have h6 := h5.sl
      have h7 := h6.len
      rcases h6.row with ⟨_, h8, _⟩ | ⟨c, off, spare, h8, _⟩
      · omega
      · rw [h8]; rfl
    refine jn_of (fun c W' => c = !(decide (∀ i : Nat, i < A.length → usableS T.P i → A[i]? = some (T.page i))) ∧ St F0 w0 W' (BoxA z (wC g (planT g) dp x' a b m false) :: TxA x' dp (0 + A.length) T :: DiskA dp T.D :: RowsA a A :: RowsA m l :: L)) ?_ ?_
    · rw [deref_some']
      refine s3.L 0 rfl (p := m) rfl ?_
      rw [hms]
      refine ⟨trivial, br_t rfl ?_⟩
      rw [deref_some']
      refine s3.L 0 rfl (p := a) rfl ?_
      have s3' : St F0 w0 W (BoxA z (wC g T.P dp x' a b m false) :: TxA x' dp 0 T :: DiskA dp T.D :: RowsA a A :: RowsA m l :: L) := by rw [hP]; exact s3
      refine readsC s3' hu.live.up (by omega) hwl (by omega) fun w4 s4 => ?_
      rw [hP] at s4
      exact ⟨by rw [hP], s4⟩
    rintro _ W' ⟨rfl, s4⟩
    refine br_of (fun hf => ?_) fun hf => ?_
    · have hf : ¬ ∀ i : Nat, i < A.length → usableS T.P i → A[i]? = some (T.page i) := by simpa using hf
      have hCe : C = CA l := by
        rcases hC with h | ⟨l', h, h2⟩
        · exact absurd (fun i hi hus => by rw [hu.page hus, h]; exact CA_at hi) hf
        · cases h; exact h2
      rw [deref_some']
      refine s4.L 0 rfl (p := m) rfl ?_
      rw [deref_some']
      refine s4.S 0 rfl (by simp) (by simp) fun w5 s5 => ?_
      have s5 : St F0 w0 w5 (BoxA z (wC g (planT g) dp x' m b m false) :: TxA x' dp (0 + A.length) T :: DiskA dp T.D :: RowsA a A :: RowsA m l :: L) := s5
      exact ⟨m, b, l, _, hl, fun i _ => by rw [hCe], .inr rfl, by omega, s5.sel [0, 1, 2, 4] 5⟩
    · have hf : ∀ i : Nat, i < A.length → usableS T.P i → A[i]? = some (T.page i) := by simpa using hf
      refine ⟨a, b, A, _, hA, fun i hus => ?_, .inl rfl, by omega, s4.sel [0, 1, 2, 3] 5⟩
      have hr := usable_lt hu.live.up.ok hus
      have hlen : (T.D.blocks.length : Int) = g.1 := by rw [hu.live.up.ok.len]; exact congrArg (·.1) hu.g
      have h6 := hf i.toNat (by omega) (by rw [show ((i.toNat : Nat) : Int) = i by omega]; exact hus)
      rw [show ((i.toNat : Nat) : Int) = i by omega] at h6
      unfold CA
      rw [h6, ← hu.page hus]; rfl
end
end Go.Proofs

set_option maxRecDepth 20000
namespace Go.Proofs
open Go.Eng
def NowA (b : Sl) : Option (List (List UInt8)) → HA
  | none => bigA []
  | some l => RowsA b l
structure WI (g : Geo) (k N : Nat) (A : List (List UInt8)) (B : Option (List (List UInt8))) (T : TM) : Prop where
  live : Live T k (CA A)
  eg : supG T.S = g
  db : DB N T.D
  fA : Fits g A
  b0 : B = none → T.busy = false
  b1 : ∀ l, B = some l → T.busy = true ∧ Fits g l ∧ ∀ i, usableS T.P i → T.page i = CA l i
section
variable {g : Geo} {dp x z r N k n : Nat} {a b m : Sl} {A : List (List UInt8)} {B : Option (List (List UInt8))} {T : TM} {w w0 : World} {F0 : Nat → Prop} {L : List HA}
theorem WI.P (h : WI g k N A B T) (hg : geoE g = 0) : T.P = planT g := by
  rw [h.live.up.ok.P, h.eg]
  unfold ofG; rw [if_pos hg]
theorem rowPick {s : Sl} {j : Nat} {l : List UInt8} (h : St F0 w0 w (RowsA s A :: L)) (hj : A[j]? = some l) : ∃ (bl : List (Sl × List UInt8)) (t : Sl), bl[j]? = some (t, l) ∧ bl.map (·.2) = A ∧ St F0 w0 w (SlA 1 t (l.map ub) :: bigA ((bl.map bytA).eraseIdx j) :: SlA 1 s (bl.map fun x => slV x.1) :: L) := by
  obtain ⟨bl, hb, h1⟩ := rowsOpen h
  rw [← hb, List.getElem?_map] at hj
  obtain ⟨⟨t, l'⟩, hx, rfl⟩ := Option.map_eq_some_iff.1 hj
  exact ⟨bl, t, hx, hb, (h1.bring 1).pick (i := j) (A := bytA (t, l')) (by simp [hx])⟩
theorem rowBack {s t : Sl} {j : Nat} {l d : List UInt8} {bl : List (Sl × List UInt8)} (hx : bl[j]? = some (t, l)) (hb : bl.map (·.2) = A) (h : St F0 w0 w (SlA 1 t (d.map ub) :: bigA ((bl.map bytA).eraseIdx j) :: SlA 1 s (bl.map fun x => slV x.1) :: L)) : St F0 w0 w (RowsA s (A.set j d) :: L) := by
  have hlt := (split_at hx).2
  have h4 := St.unpick h (by simpa using hlt)
  have e2 : (bl.map bytA).set j (SlA 1 t (d.map ub)) = (bl.set j ((t, d) : Sl × List UInt8)).map bytA := by rw [List.map_set]; rfl
  have e1 : (bl.map fun x => slV x.1) = (bl.set j ((t, d) : Sl × List UInt8)).map fun x => slV x.1 := by
    rw [List.map_set]
    refine List.ext_getElem? fun a => ?_
    rw [List.getElem?_set]
    split
    · rename_i hja
      subst hja
      rw [if_pos (by simpa using hlt), List.getElem?_map, hx]; rfl
    · rfl
  rw [e2] at h4
  have h5 : St F0 w0 w (bigA ((bl.set j ((t, d) : Sl × List UInt8)).map bytA) :: SlA 1 s (bl.map fun x => slV x.1) :: L) := h4
  rw [e1] at h5
  exact rowsClose (h5.sel [1, 0] 2) (by rw [List.map_set, hb])
theorem beginB {K : Int → Pr} (h : St F0 w0 w (TxA x dp n T :: DiskA dp T.D :: L)) (ht : T.up) (hb : T.busy = true) (hK : ∀ w', St F0 w0 w' (TxA x dp n T :: DiskA dp T.D :: L) → K 7 w') : callF Tryz.prog 28 [P0 x] [.c (.int .i64)] K w := by
  refine callF_of (post := K) (F28_calls _ _ _ ?_) fun _ _ h => h
  unfold F28
  refine mayC h ht.ok.D fun w1 s1 => ?_
  have hmay : mayE T.dead T.D = 0 := by unfold mayE; rw [ht.dead, ht.off]; rfl
  rw [hmay]
  rw [(may0 hmay).2.2] at s1
  refine br_f rfl ?_
  obtain ⟨i, hp, s2⟩ := s1.tOpen
  rw [deref_some']
  refine s2.L 0 rfl (p := T.busy) rfl ?_
  rw [hb]
  exact br_t rfl (hK w1 s1)
theorem abortC {K : Int → Pr} (h : St F0 w0 w (TxA x dp n T :: DiskA dp T.D :: L)) (ht : T.up) (hK : ∀ w', St F0 w0 w' (TxA x dp n (if T.busy then T.ends else T) :: DiskA dp T.D :: L) → K (if T.busy then 0 else 100) w') : callF Tryz.prog 29 [P0 x] [.c (.int .i64)] K w := by
  refine callF_of (post := K) (F29_calls _ _ _ ?_) fun _ _ h => h
  unfold F29
  refine mayC h ht.ok.D fun w1 s1 => ?_
  have hmay : mayE T.dead T.D = 0 := by unfold mayE; rw [ht.dead, ht.off]; rfl
  rw [hmay]
  rw [(may0 hmay).2.2] at s1
  refine br_f rfl ?_
  obtain ⟨i, hp, s2⟩ := s1.tOpen
  rw [deref_some']
  refine s2.L 0 rfl (p := T.busy) rfl ?_
  refine br_of (fun hb => ?_) fun hb => ?_
  · have hb : T.busy = false := by simpa using hb
    rw [hb] at hK
    exact hK w1 s1
  · have hb : T.busy = true := by simpa using hb
    rw [if_pos hb, if_pos hb] at hK
    obtain ⟨G, H, _, g2, _, _, _, gc⟩ := s1.call1
    refine callF_of (V60 g2 ht.ok.nod) ?_
    rintro _ w2 s3
    exact hK w2 (gc _ _ s3)
theorem checkC {M : Nat} {K : Int → Pr} (h : St F0 w0 w (TxA x dp n T :: DiskA dp T.D :: L)) (ht : T.up) (hD : DB M T.D) (hM : M ≤ 900000) (hK : ∀ w', St F0 w0 w' (TxA x dp n (if T.busy then T else T.cpt.2) :: DiskA dp (if T.busy then T else T.cpt.2).D :: L) → K (if T.busy then 7 else T.cpt.1) w') : callF Tryz.prog 30 [P0 x] [.c (.int .i64)] K w := by
  refine callF_of (post := K) (F30_calls _ _ _ ?_) fun _ _ h => h
  unfold F30
  refine mayC h ht.ok.D fun w1 s1 => ?_
  have hmay : mayE T.dead T.D = 0 := by unfold mayE; rw [ht.dead, ht.off]; rfl
  rw [hmay]
  rw [(may0 hmay).2.2] at s1
  refine br_f rfl ?_
  obtain ⟨i, hp, s2⟩ := s1.tOpen
  rw [deref_some']
  refine s2.L 0 rfl (p := T.busy) rfl ?_
  refine br_of (fun hb => ?_) fun hb => ?_
  · rw [hb] at hK
    exact hK w1 s1
  · rw [if_neg (by rw [hb]; decide), if_neg (by rw [hb]; decide)] at hK
    exact cptC s1 ht.ok hD hM ht.dead ht.off hK
end
end Go.Proofs

set_option maxRecDepth 20000
namespace Go.Proofs
open Go.Eng
section
variable {g : Geo} {dp x z r N k n : Nat} {a b m : Sl} {A : List (List UInt8)} {B : Option (List (List UInt8))} {T : TM} {w w0 : World} {F0 : Nat → Prop} {L : List HA}
abbrev wSt (g : Geo) (dp x z n : Nat) (a b : Sl) (A : List (List UInt8)) (B : Option (List (List UInt8))) (T : TM) (L : List HA) : List HA := BoxA z (wC g (planT g) dp x a b ⟨none, 0, 0⟩ B.isSome) :: TxA x dp n T :: DiskA dp T.D :: RowsA a A :: NowA b B :: L
def Alive (F0 : Nat → Prop) (w0 : World) (g : Geo) (dp z k N n : Nat) (L : List HA) (q : TM → Prop) (W : World) : Prop := ∃ x a b A B T n', WI g k N A B T ∧ n' ≤ n ∧ q T ∧ St F0 w0 W (wSt g dp x z n' a b A B T L)
def Gone (F0 : Nat → Prop) (w0 : World) (g : Geo) (dp z k N : Nat) (L : List HA) (W : World) : Prop := ∃ (x : Nat) (a b m : Sl) (busy : Bool) (A : List (List UInt8)) (M : Option (List (List UInt8))) (D : DM) (C : Int → List UInt8), Fits g A ∧ (∀ l, M = some l → Fits g l) ∧ DB N D ∧ D.off = true ∧ D.wait = [] ∧ D.armed = 0 ∧ OneOf A M C ∧ Good D g k C ∧
  St F0 w0 W (BoxA z (wC g (planT g) dp x a b m busy) :: DiskA dp D :: RowsA a A :: MayA m M :: L)
theorem WI.mono {k' N' : Nat} (h : WI g k N A B T) (hk : k ≤ k') (hN : N ≤ N') : WI g k' N' A B T := ⟨h.live.mono hk, h.eg, h.db.le hN, h.fA, h.b0, h.b1⟩
theorem CA_set {A : List (List UInt8)} {j : Nat} {l : List UInt8} (hj : j < A.length) (i : Int) (h0 : 0 ≤ i) : CA (A.set j l) i = if (j : Int) = i then l else CA A i := by
  unfold CA
  rw [List.getElem?_set]
  by_cases h : j = i.toNat
  · rw [if_pos h, if_pos (by omega), if_pos (by omega)]; rfl
  · rw [if_neg h, if_neg (by omega)]
theorem find_putP (i j : Int) (b : List UInt8) : ∀ l : List (Int × List UInt8), (putP i b l).find? (·.1 == j) = if i = j then some (i, b) else l.find? (·.1 == j)
  | [] => by
    by_cases h : i = j
    · simp [putP, h]
    · simp [putP, h]
  | p :: l => by
    unfold putP
    by_cases hp : p.1 = i
    · rw [if_pos hp, List.find?_cons, List.find?_cons]
      by_cases h : i = j
      · simp [h]
      · have e1 : (i == j) = false := beq_eq_false_iff_ne.2 h
        have e2 : (p.1 == j) = false := by rw [hp]; exact e1
        simp only [e1, e2, h, if_false]
    · rw [if_neg hp, List.find?_cons, List.find?_cons]
      by_cases h : p.1 = j
      · have e2 : (p.1 == j) = true := beq_iff_eq.2 h
        have h3 : i ≠ j := fun h' => hp (h.trans h'.symm)
        simp [e2, h3]
      · have e2 : (p.1 == j) = false := beq_eq_false_iff_ne.2 h
        simp only [e2]
        exact find_putP i j b l
theorem page_put {T : TM} {i j : Int} {b : List UInt8} : ({ T with pg := putP i b T.pg } : TM).page j = if i = j then b else T.page j := by
  unfold TM.page
  show (match (putP i b T.pg).find? (·.1 == j) with | some p => p.2 | none => rdD T.D j) = _
  rw [find_putP]
  by_cases h : i = j
  · rw [if_pos h, if_pos h]
  · rw [if_neg h, if_neg h]; rfl
theorem putP_keys (i : Int) (b : List UInt8) : ∀ l : List (Int × List UInt8), (putP i b l).map (·.1) = if i ∈ l.map (·.1) then l.map (·.1) else l.map (·.1) ++ [i]
  | [] => by simp [putP]
  | p :: l => by
    unfold putP
    by_cases hp : p.1 = i
    · rw [if_pos hp]
      simp [hp]
    · rw [if_neg hp, List.map_cons, putP_keys i b l]
      have : i ≠ p.1 := fun h => hp h.symm
      by_cases hm : i ∈ l.map (·.1)
      · rw [if_pos hm, if_pos (by simp only [List.map_cons, List.mem_cons]; exact .inr hm)]; rfl
      · rw [if_neg hm, if_neg (by simp only [List.map_cons, List.mem_cons, not_or]; exact ⟨this, hm⟩)]; rfl
theorem put_up {T : TM} (h : T.up) {i : Int} {l : List UInt8} (hb : T.busy = true) (hu : usableS T.P i) (hl : l.length = 256) : ({ T with pg := putP i l T.pg } : TM).up := by
  refine ⟨⟨h.ok.D, h.ok.P, h.ok.g, h.ok.len, h.ok.h, h.ok.R, h.ok.ok, ?_, fun p hp => ?_, fun h' => ?_⟩, h.dead, h.off⟩
  · show ((putP i l T.pg).map (·.1)).Nodup
    rw [putP_keys]
    have hn := h.ok.nod
    split
    · exact hn
    · rename_i hm
      rw [List.nodup_append]
      refine ⟨hn, by simp, fun a ha b hb => ?_⟩
      rw [List.mem_singleton] at hb
      subst hb
      rintro rfl
      exact hm ha
  · have hk : ∀ (l' : List (Int × List UInt8)), (∀ p ∈ l', usableS T.P p.1 ∧ p.2.length = 256) → ∀ p ∈ putP i l l', usableS T.P p.1 ∧ p.2.length = 256 := by
      intro l'
      induction l' with
      | nil => intro _ p hp; simp [putP] at hp; subst hp; exact ⟨hu, hl⟩
      | cons q l' ih =>
        intro hq p hp
        unfold putP at hp
        split at hp
        · rcases List.mem_cons.1 hp with rfl | hp
          · exact ⟨hu, hl⟩
          · exact hq p (List.mem_cons_of_mem _ hp)
        · rcases List.mem_cons.1 hp with rfl | hp
          · exact hq _ (List.mem_cons_self ..)
          · exact ih (fun p hp => hq p (List.mem_cons_of_mem _ hp)) p hp
    exact hk T.pg h.ok.pg p hp
  · have h' : T.busy = false := h'
    rw [hb] at h'; cases h'
end
end Go.Proofs

set_option maxRecDepth 20000
namespace Go.Proofs
open Go.Eng
section
variable {g : Geo} {dp x z N k n : Nat} {a b : Sl} {A : List (List UInt8)} {B : Option (List (List UInt8))} {T : TM} {w w0 : World} {F0 : Nat → Prop} {L : List HA}
theorem WI.may (h : WI g k N A B T) : mayE T.dead T.D = 0 := by unfold mayE; rw [h.live.up.dead, h.live.up.off]; rfl
theorem WI.blen (h : WI g k N A B T) : (T.D.blocks.length : Int) = g.1 := by rw [h.live.up.ok.len]; exact congrArg (·.1) h.eg
theorem WI.bsome (h : WI g k N A B T) : T.busy = B.isSome := by
  cases B with
  | none => exact h.b0 rfl
  | some l => exact (h.b1 l rfl).1
theorem WI.begin (h : WI g k N A none T) : WI g k N A (some A) { T with busy := true } := by
  have hu := h.live.up
  have hb := h.b0 rfl
  have hup : ({ T with busy := true } : TM).up := ⟨⟨hu.ok.D, hu.ok.P, hu.ok.g, hu.ok.len, hu.ok.h, hu.ok.R, hu.ok.ok, hu.ok.nod, hu.ok.pg, fun h => by cases h⟩, hu.dead, hu.off⟩
  refine ⟨h.live.part hup rfl rfl rfl rfl rfl, h.eg, h.db, h.fA, (fun h => by cases h), fun l hl => ?_⟩
  cases hl
  refine ⟨rfl, h.fA, fun i hi => ?_⟩
  unfold TM.page
  show (match T.pg.find? (·.1 == i) with | some p => p.2 | none => rdD T.D i) = _
  rw [hu.ok.idle hb]
  exact h.live.rd i hi
theorem WI.put {l : List (List UInt8)} {i o : Int} {d : List UInt8} (h : WI g k N A (some l) T) (hw : withinS T.P i o d.length) : WI g k N A (some (l.set i.toNat (lay (CA l i) o.toNat d))) (T.write i o d).2 ∧ (T.write i o d).1 = 0 ∧ l[i.toNat]? = some (CA l i) ∧ o.toNat + d.length ≤ (CA l i).length := by
  obtain ⟨hb, hf, hpg⟩ := h.b1 l rfl
  have hu := h.live.up
  have hwi := hw
  obtain ⟨w1, w2, w3, w4, w5⟩ := hw
  have hr := usable_lt hu.ok w1
  have hbl := h.blen
  have hfl := hf.len
  have hil : i.toNat < l.length := by omega
  have hget : l[i.toNat]? = some (CA l i) := by
    unfold CA
    rw [List.getElem?_eq_getElem hil]; rfl
  have h256 : (CA l i).length = 256 := hf.row _ (List.mem_of_getElem? hget)
  have hlay : (lay (CA l i) o.toNat d).length = 256 := by rw [lay_len (by omega)]; exact h256
  have hwr : T.write i o d = (0, if d = [] then T else { T with pg := putP i (lay (T.page i) o.toNat d) T.pg }) := by
    unfold TM.write
    rw [if_neg (not_not_intro h.may), if_neg (by rw [hb]; decide), if_pos hwi]
  have hset : Fits g (l.set i.toNat (lay (CA l i) o.toNat d)) := ⟨by rw [List.length_set]; exact hfl, fun q hq => by
    rcases List.mem_or_eq_of_mem_set hq with h1 | rfl
    · exact hf.row q h1
    · exact hlay⟩
  refine ⟨?_, by rw [hwr], hget, by omega⟩
  rw [hwr]
  dsimp only
  by_cases hd : d = []
  · rw [if_pos hd]
    subst hd
    refine ⟨h.live, h.eg, h.db, h.fA, (fun h => by cases h), fun l' hl' => ?_⟩
    cases hl'
    refine ⟨hb, hset, fun j hj => ?_⟩
    have hj0 := usable_lt hu.ok hj
    rw [CA_set hil j hj0.1, lay_nil]
    by_cases hij : ((i.toNat : Nat) : Int) = j
    · rw [if_pos hij, hpg j hj, show j = i by omega]
    · rw [if_neg hij, hpg j hj]
  · rw [if_neg hd]
    have hup := put_up hu (i := i) (l := lay (T.page i) o.toNat d) hb w1 (by rw [hpg i w1]; exact hlay)
    refine ⟨h.live.part hup rfl rfl rfl rfl rfl, h.eg, h.db, h.fA, (fun h => by cases h), fun l' hl' => ?_⟩
    cases hl'
    refine ⟨hb, hset, fun j hj => ?_⟩
    have hj : usableS T.P j := hj
    have hj0 := usable_lt hu.ok hj
    rw [page_put, CA_set hil j hj0.1, hpg i w1]
    by_cases hij : i = j
    · rw [if_pos hij, if_pos (by omega)]
    · rw [if_neg hij, if_neg (by omega), hpg j hj]
theorem WI.noput {i o : Int} {d : List UInt8} (h : WI g k N A B T) (hne : (T.write i o d).1 ≠ 0) : (T.write i o d).2 = T ∧ (T.write i o d).1 ≠ 5 := by
  unfold TM.write at hne ⊢
  rw [if_neg (not_not_intro h.may)] at hne ⊢
  by_cases hb : T.busy = false
  · rw [if_pos hb]; exact ⟨rfl, show (100 : Int) ≠ 5 by decide⟩
  · rw [if_neg hb] at hne ⊢
    by_cases hw : withinS T.P i o d.length
    · rw [if_pos hw] at hne; exact absurd rfl hne
    · rw [if_neg hw]; exact ⟨rfl, show (1 : Int) ≠ 5 by decide⟩
theorem WI.yput {i o : Int} {d : List UInt8} (h : WI g k N A B T) (he : (T.write i o d).1 = 0) : ∃ l, B = some l ∧ withinS T.P i o d.length := by
  unfold TM.write at he
  rw [if_neg (not_not_intro h.may)] at he
  by_cases hb : T.busy = false
  · rw [if_pos hb] at he; cases he
  · rw [if_neg hb] at he
    by_cases hw : withinS T.P i o d.length
    · cases B with
      | none => exact absurd (h.b0 rfl) hb
      | some l => exact ⟨l, rfl, hw⟩
    · rw [if_neg hw] at he; cases he
theorem WI.ends (h : WI g k N A B T) : WI g k N A none T.ends := ⟨h.live.ends, h.eg, h.db, h.fA, fun _ => rfl, fun l hl => by cases hl⟩
theorem WI.arm {p1 : Int} {pl : List UInt8} (h : WI g k N A B T) (hp : 0 ≤ p1 ∧ p1 ≤ 9223372036854775807) : WI g k N A B { T with D := { T.D with armed := p1, picks := pl } } ∧ armD T.D p1 pl = (0, { T.D with armed := p1, picks := pl }) := by
  have hu := h.live.up
  have hdb : DB N { T.D with armed := p1, picks := pl } := ⟨⟨h.db.ok.len, h.db.ok.wlen, h.db.ok.pos, h.db.ok.le⟩, ⟨hp, h.db.bd.ops, h.db.bd.wait⟩⟩
  have hup : ({ T with D := { T.D with armed := p1, picks := pl } } : TM).up := ⟨hu.ok.toD hdb.ok rfl, hu.dead, hu.off⟩
  refine ⟨⟨h.live.part hup rfl rfl rfl rfl rfl, h.eg, hdb, h.fA, h.b0, fun l hl => ?_⟩, ?_⟩
  · obtain ⟨h1, h2, h3⟩ := h.b1 l hl
    refine ⟨h1, h2, fun i hi => ?_⟩
    rw [← h3 i hi]
    rfl
  · unfold armD
    rw [if_neg (by rw [hu.off]; decide), if_neg (by omega)]
end
end Go.Proofs

set_option maxRecDepth 20000
namespace Go.Proofs
open Go.Eng
section
variable {g : Geo} {dp x z N k n : Nat} {a b : Sl} {A : List (List UInt8)} {B : Option (List (List UInt8))} {T : TM} {w w0 : World} {F0 : Nat → Prop} {L : List HA}
theorem Alive.drop {q : TM → Prop} {X : HA} {W : World} (h : Alive F0 w0 g dp z k N n (X :: L) q W) : Alive F0 w0 g dp z k N n L q W := by
  obtain ⟨x, a, b, A, B, T, n', h1, h2, h3, h4⟩ := h
  exact ⟨x, a, b, A, B, T, n', h1, h2, h3, h4.sel [0, 1, 2, 3, 4] 6⟩
theorem Alive.mono {q q' : TM → Prop} {k' N' n' : Nat} {W : World} (h : Alive F0 w0 g dp z k N n L q W) (hk : k ≤ k') (hN : N ≤ N') (hn : n ≤ n') (hq : ∀ T, q T → q' T) : Alive F0 w0 g dp z k' N' n' L q' W := by
  obtain ⟨x, a, b, A, B, T, m, h1, h2, h3, h4⟩ := h
  exact ⟨x, a, b, A, B, T, m, h1.mono hk hN, by omega, hq T h3, h4⟩
theorem imax_ok {n : Int} (h : -9223372036854775808 ≤ n ∧ n ≤ 9223372036854775807) : 0 ≤ imax n 0 ∧ imax n 0 ≤ 9223372036854775807 := by unfold imax; split <;> omega
theorem goneUp {p1 : Int} {p2 : Sl} {pl : List UInt8} {K : Bool → Pr} (hg : geoE g = 0) (h : Gone F0 w0 g dp z k N L w) (hN : N ≤ 800000) (hk : k ≤ 10000000) (hr : Rd w0 F0 p2 pl) (hpl : pl.length ≤ 1000000) (hp1 : 0 ≤ p1 ∧ p1 ≤ 9223372036854775807)
    (hK : ∀ w', Alive F0 w0 g dp z (k + 2) (N + 4200) 10000 L (fun T => C0 T.D) w' → K true w') : callF Tryz.prog 52 [P0 z, iv p1, slV p2] [.c .bool] K w := by
  obtain ⟨x, a, b, m, busy, A, M, D, C, h1, h2, h3, h4, h5, h6, h7, h8, s⟩ := h
  refine upW hg s h1 h2 h3 hN h4 h5 h6 h7 h8 hk hr hpl hp1 fun x' a' b' A' T N' w' hu hf hN' s' _ => hK w' ?_
  exact ⟨x', a', b', A', none, T, N', ⟨hu.live, hu.g, hu.db, hf, fun _ => hu.idle, fun l hl => by cases hl⟩, hN', hu.c0, s'.nobig.sel [1, 2, 3, 4, 0] 5⟩
theorem doesC {d i o nn : Int} {sb sp : Sl} {lb lp : List UInt8} {K : Bool → Pr} (hg : geoE g = 0) (h : St F0 w0 w (wSt g dp x z n a b A B T L)) (hw : WI g k N A B T) (hk : k ≤ 1000000) (hN : N ≤ 780000) (hn : n ≤ 9000000)
    (hrb : Rd w0 F0 sb lb) (hrp : Rd w0 F0 sp lp) (hlb : lb.length ≤ 1000000) (hlp : lp.length ≤ 1000000) (hnn : -9223372036854775808 ≤ nn ∧ nn ≤ 9223372036854775807)
    (hK : ∀ w', Alive F0 w0 g dp z (k + 4) (N + 9000) (n + 10000) L (fun T' => C0 T.D → d ≠ 6 → d ≠ 7 → C0 T'.D) w' → K true w') :
    callF Tryz.prog 15 [P0 z, .agg #[iv d, iv i, iv o, iv nn, slV sb, slV sp]] [.c .bool] K w := by
  refine callF_of (post := K) (F15_calls _ _ _ _ _ _ _ _ _ ?_) fun _ _ h => h
  unfold F15
  have hbd := hw.db.bd.wait
  have hwl : T.D.wait.length ≤ 10000000 := by omega
  refine St.nw h fun r w1 s1 _ _ => ?_
  obtain ⟨op, hop⟩ : ∃ op, BoxA r [iv d, iv i, iv o, iv nn, slV sb, slV sp] = op := ⟨_, rfl⟩
  have s1 : St F0 w0 w1 (BoxA r [iv d, iv i, iv o, iv nn, slV sb, slV sp] :: BoxA z (wC g (planT g) dp x a b ⟨none, 0, 0⟩ B.isSome) :: TxA x dp n T :: DiskA dp T.D :: RowsA a A :: NowA b B :: L) := s1
  have hL : ∀ {W : World} {x' n' : Nat} {a' b' : Sl} {A' : List (List UInt8)} {B' : Option (List (List UInt8))} {T' : TM}, St F0 w0 W (BoxA r [iv d, iv i, iv o, iv nn, slV sb, slV sp] :: BoxA z (wC g (planT g) dp x' a' b' ⟨none, 0, 0⟩ B'.isSome) :: TxA x' dp n' T' :: DiskA dp T'.D :: RowsA a' A' :: NowA b' B' :: L) → St F0 w0 W (wSt g dp x' z n' a' b' A' B' T' (op :: L)) := fun s => by
    rw [hop] at s
    exact s.sel [1, 2, 3, 4, 5, 0] 6
  refine jn_of (fun (c : Int) W => (c ≠ 5 ∧ Alive F0 w0 g dp z (k + 1) (N + 4300) (n + 5000) (op :: L) (fun T' => C0 T.D → d ≠ 6 → d ≠ 7 → C0 T'.D) W) ∨ (c = 5 ∧ Gone F0 w0 g dp z (k + 1) (N + 4300) (op :: L) W)) ?_ ?_
  rotate_left
  · rintro c W (⟨hc, x', a', b', A', B', T', n', hw', hn', hq, s⟩ | ⟨rfl, hgone⟩)
    · refine jn_of (fun c W' => c = false ∧ W = W') ?_ ?_
      · refine br_f (beq_eq_false_iff_ne.2 hc) ?_
        rw [deref_some']
        refine s.L 0 rfl (p := some ⟨dp, 0, none⟩) rfl ?_
        refine onC (s.sel [2, 0, 1, 3, 4] 5) hw'.live.up.ok.D ?_
        rw [hw'.live.up.off]
        exact ⟨rfl, rfl⟩
      rintro _ _ ⟨rfl, rfl⟩
      refine br_f rfl (hK _ ?_)
      exact Alive.mono (Alive.drop (X := op) ⟨x', a', b', A', B', T', n', hw', hn', hq, s⟩) (by omega) (by omega) (by omega) fun _ h => h
    · refine jn_of (fun c W' => c = true ∧ W = W') (br_t rfl ⟨rfl, rfl⟩) ?_
      rintro _ _ ⟨rfl, rfl⟩
      refine br_t rfl ?_
      exact goneUp (p1 := 0) (p2 := ⟨none, 0, 0⟩) (pl := []) hg hgone (by omega) (by omega) (Rd.nil _ _) (by simp) ⟨Int.le_refl 0, by decide⟩ fun w' h' => hK w' (Alive.mono (Alive.drop h') (by omega) (by omega) (by omega) fun T' h _ _ _ => h)
  refine s1.L 0 rfl (p := d) rfl ?_
  have same : ∀ {W : World} {c : Int} {n' : Nat}, c ≠ 5 → n' ≤ n + 5000 → St F0 w0 W (BoxA r [iv d, iv i, iv o, iv nn, slV sb, slV sp] :: BoxA z (wC g (planT g) dp x a b ⟨none, 0, 0⟩ B.isSome) :: TxA x dp n' T :: DiskA dp T.D :: RowsA a A :: NowA b B :: L) →
      (c ≠ 5 ∧ Alive F0 w0 g dp z (k + 1) (N + 4300) (n + 5000) (op :: L) (fun T' => C0 T.D → d ≠ 6 → d ≠ 7 → C0 T'.D) W) ∨ (c = 5 ∧ Gone F0 w0 g dp z (k + 1) (N + 4300) (op :: L) W) :=
    fun {W c n'} hc hn' s => .inl ⟨hc, x, a, b, A, B, T, n', hw.mono (by omega) (by omega), hn', fun h _ _ => h, hL s⟩
  by_cases d0 : d = 0
  · refine br_t (beq_iff_eq.2 d0) ?_
    rw [deref_some']
    refine s1.L 1 rfl (p := some ⟨x, 0, none⟩) rfl ?_
    have s2 : St F0 w0 w1 (TxA x dp n T :: DiskA dp T.D :: BoxA r [iv d, iv i, iv o, iv nn, slV sb, slV sp] :: BoxA z (wC g (planT g) dp x a b ⟨none, 0, 0⟩ B.isSome) :: RowsA a A :: NowA b B :: L) := s1.sel [2, 3, 0, 1, 4, 5] 6
    cases B with
    | some l =>
      refine beginB s2 hw.live.up (hw.b1 l rfl).1 fun w3 s3 => ?_
      exact br_f rfl (same (by decide) (by omega) (s3.sel [2, 3, 0, 1, 4, 5] 6))
    | none =>
      refine beginC s2 hw.live.up (hw.b0 rfl) fun w3 s3 => ?_
      refine br_t rfl ?_
      have s3 : St F0 w0 w3 (BoxA r [iv d, iv i, iv o, iv nn, slV sb, slV sp] :: BoxA z (wC g (planT g) dp x a b ⟨none, 0, 0⟩ false) :: TxA x dp n { T with busy := true } :: DiskA dp T.D :: RowsA a A :: NowA b none :: L) := s3.sel [2, 3, 0, 1, 4, 5] 6
      rw [deref_some']
      refine s3.L 1 rfl (p := false) rfl ?_
      refine br_f rfl ?_
      rw [deref_some']
      refine s3.L 1 rfl (p := a) rfl ?_
      have hfl := hw.fA.len
      have hgl := geo_le hg
      refine copiedC (s3.sel [4, 0, 1, 2, 3] 6) (by omega) (fun l hl => by rw [hw.fA.row l hl]; omega) fun q w4 s4 => ?_
      have s4 : St F0 w0 w4 (BoxA r [iv d, iv i, iv o, iv nn, slV sb, slV sp] :: BoxA z (wC g (planT g) dp x a b ⟨none, 0, 0⟩ false) :: TxA x dp n { T with busy := true } :: DiskA dp T.D :: RowsA a A :: RowsA q A :: L) := s4.sel [2, 3, 4, 5, 1, 0] 6
      rw [deref_some']
      refine s4.S 1 rfl (by simp) (by simp) fun w5 s5 => ?_
      rw [deref_some']
      refine s5.S 1 rfl (by simp) trivial fun w6 s6 => ?_
      have s6 : St F0 w0 w6 (BoxA r [iv d, iv i, iv o, iv nn, slV sb, slV sp] :: BoxA z (wC g (planT g) dp x a q ⟨none, 0, 0⟩ true) :: TxA x dp n { T with busy := true } :: DiskA dp T.D :: RowsA a A :: RowsA q A :: L) := s6
      exact .inl ⟨by decide, x, a, q, A, some A, { T with busy := true }, n, hw.begin.mono (by omega) (by omega), by omega, fun h _ _ => h, hL s6⟩
  refine br_f (beq_eq_false_iff_ne.2 d0) ?_
  by_cases d3 : d = 3
  · refine br_t (beq_iff_eq.2 d3) ?_
    rw [drw_def]
    have s1 := s1.drew
    generalize w1.drew = w1 at s1
    rw [deref_some']
    refine s1.L 1 rfl (p := some ⟨x, 0, none⟩) rfl ?_
    refine s1.L 0 rfl (p := i) rfl ?_
    refine s1.L 0 rfl (p := o) rfl ?_
    refine s1.L 0 rfl (p := sb) rfl ?_
    have s2 : St F0 w0 w1 (TxA x dp n T :: DiskA dp T.D :: BoxA r [iv d, iv i, iv o, iv nn, slV sb, slV sp] :: BoxA z (wC g (planT g) dp x a b ⟨none, 0, 0⟩ B.isSome) :: RowsA a A :: NowA b B :: L) := s1.sel [2, 3, 0, 1, 4, 5] 6
    refine writeR (i := i) (o := o) (p := sb) (l := lb) s2 hw.live.up.ok hwl (by omega) hrb fun w3 s3 => ?_
    by_cases he : (T.write i o lb).1 = 0
    rotate_left
    · obtain ⟨e1, e2⟩ := hw.noput he
      rw [e1] at s3
      exact br_f (beq_eq_false_iff_ne.2 he) (same e2 (by omega) (s3.sel [2, 3, 0, 1, 4, 5] 6))
    obtain ⟨l, rfl, hwi⟩ := hw.yput he
    obtain ⟨hw2, _, hget, hol⟩ := hw.put hwi
    have hD2 : (T.write i o lb).2.D = T.D := by
      have hwr : (T.write i o lb).2 = if lb = [] then T else { T with pg := putP i (lay (T.page i) o.toNat lb) T.pg } := by
        unfold TM.write
        rw [if_neg (not_not_intro hw.may), if_neg (by rw [(hw.b1 l rfl).1]; decide), if_pos hwi]
      rw [hwr]
      split
      · rfl
      · rfl
    rw [he]
    refine br_t rfl ?_
    generalize T.write i o lb = Wr at s3 hw2 hD2
    rw [← hD2] at s3
    have s3 : St F0 w0 w3 (BoxA r [iv d, iv i, iv o, iv nn, slV sb, slV sp] :: BoxA z (wC g (planT g) dp x a b ⟨none, 0, 0⟩ true) :: TxA x dp (n + 1) Wr.2 :: DiskA dp Wr.2.D :: RowsA a A :: RowsA b l :: L) := s3.sel [2, 3, 0, 1, 4, 5] 6
    obtain ⟨u1, u2, u3, u4, u5⟩ := hwi
    have hsl := hrb.bs.len
    refine jn_of (fun c W => c = false ∧ w3 = W) ?_ ?_
    · rw [deref_some']
      refine s3.L 1 rfl (p := true) rfl ?_
      refine br_f rfl ?_
      refine s3.L 0 rfl (p := i) rfl ?_
      refine usedC (s3.bring 1).box ?_
      rw [← hw.P hg, decide_eq_true u1]
      refine br_f rfl ?_
      refine s3.L 0 rfl (p := o) rfl ?_
      refine br_f (decide_eq_false (by omega)) ?_
      refine s3.L 0 rfl (p := o) rfl ?_
      refine s3.L 0 rfl (p := sb) rfl ?_
      rw [w64_of (n := 256 - (sb.len : Int)) ⟨by omega, by omega⟩]
      exact ⟨decide_eq_false (by omega), rfl⟩
    rintro _ _ ⟨rfl, rfl⟩
    refine br_f rfl ?_
    rw [drw_def]
    have s4 := s3.drew
    generalize w3.drew = w4 at s4
    rw [deref_some']
    refine s4.L 1 rfl (p := b) rfl ?_
    refine s4.L 0 rfl (p := i) rfl ?_
    have hr0 := usable_lt hw.live.up.ok u1
    obtain ⟨j, rfl⟩ := Int.eq_ofNat_of_zero_le hr0.1
    obtain ⟨oo, rfl⟩ := Int.eq_ofNat_of_zero_le u2
    rw [Int.toNat_natCast] at hget
    simp only [Int.toNat_natCast] at hw2 hol
    obtain ⟨bl, t, hx, hb, s5⟩ := rowPick (s4.sel [5, 0, 1, 2, 3, 4] 6) hget
    refine rowEl (s5.bring 2) hx ?_
    refine s5.L 3 rfl (p := (oo : Int)) rfl ?_
    have htl := slA_len1 s5.sl
    rw [List.length_map] at htl
    refine slc_sub (by show oo ≤ t.len; omega) ?_
    refine s5.L 3 rfl (p := sb) rfl ?_
    refine cpy_sub s5 (hrb.at s5) hol fun w6 s6 => ?_
    have s7 := rowBack hx hb s6
    have s7 : St F0 w0 w6 (BoxA r [iv d, iv (j : Int), iv (oo : Int), iv nn, slV sb, slV sp] :: BoxA z (wC g (planT g) dp x a b ⟨none, 0, 0⟩ true) :: TxA x dp (n + 1) Wr.2 :: DiskA dp Wr.2.D :: RowsA a A :: RowsA b (l.set j (lay (CA l j) oo lb)) :: L) := s7.sel [1, 2, 3, 4, 5, 0] 6
    exact .inl ⟨by decide, x, a, b, A, some (l.set j (lay (CA l j) oo lb)), Wr.2, n + 1, hw2.mono (by omega) (by omega), by omega, fun h _ _ => by rw [hD2]; exact h, hL s7⟩
  refine br_f (beq_eq_false_iff_ne.2 d3) ?_
  by_cases d1 : d = 1
  · refine br_t (beq_iff_eq.2 d1) ?_
    rw [deref_some']
    refine s1.L 1 rfl (p := some ⟨x, 0, none⟩) rfl ?_
    have s2 : St F0 w0 w1 (TxA x dp n T :: DiskA dp T.D :: BoxA r [iv d, iv i, iv o, iv nn, slV sb, slV sp] :: BoxA z (wC g (planT g) dp x a b ⟨none, 0, 0⟩ B.isSome) :: RowsA a A :: NowA b B :: L) := s1.sel [2, 3, 0, 1, 4, 5] 6
    refine commitC s2 hw.live.up.ok hw.db (by omega) (by omega) fun w3 s3 => ?_
    have s3 : St F0 w0 w3 (BoxA r [iv d, iv i, iv o, iv nn, slV sb, slV sp] :: BoxA z (wC g (planT g) dp x a b ⟨none, 0, 0⟩ B.isSome) :: TxA x dp (n + 5000) T.commit.2 :: DiskA dp T.commit.2.D :: RowsA a A :: NowA b B :: L) := s3.sel [2, 3, 0, 1, 4, 5] 6

    have fin : ∀ {W : World} {c : Int} {a' b' : Sl} {fl : Bool} {A' : List (List UInt8)} {T' : TM}, St F0 w0 W (BoxA r [iv d, iv i, iv o, iv nn, slV sb, slV sp] :: BoxA z (wC g (planT g) dp x a' b' ⟨none, 0, 0⟩ fl) :: TxA x dp (n + 5000) T' :: DiskA dp T'.D :: RowsA a' A' :: L) → c ≠ 5 → WI g (k + 1) (N + 4300) A' none T' → (C0 T.D → C0 T'.D) →
        (deref (some ⟨z, 0, none⟩) fun a_69 => Eng.st (a_69.add 15) (.bool false) <| fun W => (c ≠ 5 ∧ Alive F0 w0 g dp z (k + 1) (N + 4300) (n + 5000) (op :: L) (fun T' => C0 T.D → d ≠ 6 → d ≠ 7 → C0 T'.D) W) ∨ (c = 5 ∧ Gone F0 w0 g dp z (k + 1) (N + 4300) (op :: L) W)) W := fun {W c a' b' fl A' T'} s hc hwi hq => by
      rw [deref_some']
      refine s.S 1 rfl (by simp) trivial fun w6 s6 => ?_
      have s6 : St F0 w0 w6 (BoxA r [iv d, iv i, iv o, iv nn, slV sb, slV sp] :: BoxA z (wC g (planT g) dp x a' b' ⟨none, 0, 0⟩ false) :: TxA x dp (n + 5000) T' :: DiskA dp T'.D :: RowsA a' A' :: L) := s6
      have s7 : St F0 w0 w6 (BoxA r [iv d, iv i, iv o, iv nn, slV sb, slV sp] :: BoxA z (wC g (planT g) dp x a' b' ⟨none, 0, 0⟩ false) :: TxA x dp (n + 5000) T' :: DiskA dp T'.D :: RowsA a' A' :: NowA b' none :: L) := s6.nobig.sel [1, 2, 3, 4, 5, 0] 6
      exact .inl ⟨hc, x, a', b', A', none, T', n + 5000, hwi, by omega, fun h _ _ => hq h, hL s7⟩
    cases B with
    | none =>
      have hb := hw.b0 rfl
      have hc : T.commit = (100, T) := by
        unfold TM.commit
        rw [if_neg (not_not_intro hw.may), if_pos hb]
      rw [hc] at s3 ⊢
      have s3 : St F0 w0 w3 (BoxA r [iv d, iv i, iv o, iv nn, slV sb, slV sp] :: BoxA z (wC g (planT g) dp x a b ⟨none, 0, 0⟩ false) :: TxA x dp (n + 5000) T :: DiskA dp T.D :: RowsA a A :: L) := s3.sel [0, 1, 2, 3, 4] 6
      refine jn_of (fun _ W => w3 = W) ?_ ?_
      · refine jn_of (fun q W => q = false ∧ w3 = W) ?_ ?_
        · rw [deref_some']
          refine s3.L 1 rfl (p := false) rfl ?_
          exact br_f rfl ⟨rfl, rfl⟩
        rintro _ _ ⟨rfl, rfl⟩
        exact br_f rfl rfl
      rintro _ _ rfl
      refine jn_of (fun _ W => w3 = W) ?_ ?_
      · refine jn_of (fun q W => q = false ∧ w3 = W) ?_ ?_
        · rw [deref_some']
          refine s3.L 1 rfl (p := false) rfl ?_
          exact br_f rfl ⟨rfl, rfl⟩
        rintro _ _ ⟨rfl, rfl⟩
        exact br_f rfl rfl
      rintro _ _ rfl
      exact fin s3 (show (100 : Int) ≠ 5 by decide) (hw.mono (by omega) (by omega)) fun h => h
    | some l =>
      obtain ⟨hb, hfl, hpg⟩ := hw.b1 l rfl
      obtain ⟨hcm, hcg, hcS⟩ := live_commit hw.live (by omega) hw.db hb
      have hcdb := hcg.db
      have s3 : St F0 w0 w3 (BoxA r [iv d, iv i, iv o, iv nn, slV sb, slV sp] :: BoxA z (wC g (planT g) dp x a b ⟨none, 0, 0⟩ true) :: TxA x dp (n + 5000) T.commit.2 :: DiskA dp T.commit.2.D :: RowsA a A :: RowsA b l :: L) := s3
      have hpw : C0 T.D → C0 T.commit.2.D := fun h => h.commit
      have hPw : Pw T.commit.2.D := Pw.inv.commit (fun h => by rw [hw.live.up.off] at h; cases h)
      have hend : T.commit.1 = 101 → T.commit.2 = T.ends → WI g (k + 1) (N + 4300) A none T.commit.2 := fun _ h => by rw [h]; exact hw.ends.mono (by omega) (by omega)
      generalize T.commit = E at s3 hcm hcdb hcS hpw hPw hend ⊢
      rcases hcm with ⟨e0, e1, e2⟩ | ⟨e0, e1, _⟩ | ⟨e0, e1, e2, e3⟩
      ·
        have hwi : WI g (k + 1) (N + 4300) l none E.2 := by
          refine ⟨e1.congr fun j hj => ?_, hcS.trans hw.eg, hcdb.le (by omega), hfl, fun _ => e2, fun l hl => by cases hl⟩
          refine (hpg j ?_).symm
          rw [e1.up.ok.P, hcS, ← hw.live.up.ok.P] at hj
          exact hj
        rw [e0]
        refine jn_of (fun _ W => St F0 w0 W (BoxA r [iv d, iv i, iv o, iv nn, slV sb, slV sp] :: BoxA z (wC g (planT g) dp x b b ⟨none, 0, 0⟩ true) :: TxA x dp (n + 5000) E.2 :: DiskA dp E.2.D :: RowsA b l :: L)) ?_ ?_
        · refine jn_of (fun q W => q = true ∧ w3 = W) ?_ ?_
          · rw [deref_some']
            refine s3.L 1 rfl (p := true) rfl ?_
            exact br_t rfl ⟨rfl, rfl⟩
          rintro _ _ ⟨rfl, rfl⟩
          refine br_t rfl ?_
          rw [deref_some']
          refine s3.L 1 rfl (p := b) rfl ?_
          rw [deref_some']
          refine s3.S 1 rfl (by simp) (by simp) fun w5 s5 => ?_
          have s5 : St F0 w0 w5 (BoxA r [iv d, iv i, iv o, iv nn, slV sb, slV sp] :: BoxA z (wC g (planT g) dp x b b ⟨none, 0, 0⟩ true) :: TxA x dp (n + 5000) E.2 :: DiskA dp E.2.D :: RowsA a A :: RowsA b l :: L) := s5
          exact s5.sel [0, 1, 2, 3, 5] 6
        rintro _ w5 s5
        refine jn_of (fun _ W => w5 = W) ?_ ?_
        · refine jn_of (fun q W => q = false ∧ w5 = W) ?_ ?_
          · rw [deref_some']
            refine s5.L 1 rfl (p := true) rfl ?_
            exact br_t rfl ⟨rfl, rfl⟩
          rintro _ _ ⟨rfl, rfl⟩
          exact br_f rfl rfl
        rintro _ _ rfl
        exact fin s5 (by decide) hwi hpw
      ·
        have hwi := hend e0 e1
        rw [e0]
        refine jn_of (fun _ W => w3 = W) ?_ ?_
        · refine jn_of (fun q W => q = false ∧ w3 = W) ?_ ?_
          · rw [deref_some']
            refine s3.L 1 rfl (p := true) rfl ?_
            exact br_t rfl ⟨rfl, rfl⟩
          rintro _ _ ⟨rfl, rfl⟩
          exact br_f rfl rfl
        rintro _ _ rfl
        refine jn_of (fun _ W => w3 = W) ?_ ?_
        · refine jn_of (fun q W => q = false ∧ w3 = W) ?_ ?_
          · rw [deref_some']
            refine s3.L 1 rfl (p := true) rfl ?_
            exact br_t rfl ⟨rfl, rfl⟩
          rintro _ _ ⟨rfl, rfl⟩
          exact br_f rfl rfl
        rintro _ _ rfl
        exact fin (s3.sel [0, 1, 2, 3, 4] 6) (by decide) hwi hpw
      ·
        rw [e0]
        refine jn_of (fun _ W => w3 = W) ?_ ?_
        · refine jn_of (fun q W => q = false ∧ w3 = W) ?_ ?_
          · rw [deref_some']
            refine s3.L 1 rfl (p := true) rfl ?_
            exact br_t rfl ⟨rfl, rfl⟩
          rintro _ _ ⟨rfl, rfl⟩
          exact br_f rfl rfl
        rintro _ _ rfl
        refine jn_of (fun _ W => St F0 w0 W (BoxA r [iv d, iv i, iv o, iv nn, slV sb, slV sp] :: BoxA z (wC g (planT g) dp x a b b true) :: TxA x dp (n + 5000) E.2 :: DiskA dp E.2.D :: RowsA a A :: RowsA b l :: L)) ?_ ?_
        · refine jn_of (fun q W => q = true ∧ w3 = W) ?_ ?_
          · rw [deref_some']
            refine s3.L 1 rfl (p := true) rfl ?_
            exact br_t rfl ⟨rfl, rfl⟩
          rintro _ _ ⟨rfl, rfl⟩
          refine br_t rfl ?_
          rw [deref_some']
          refine s3.L 1 rfl (p := b) rfl ?_
          rw [deref_some']
          exact s3.S 1 rfl (by simp) (by simp) fun w5 s5 => s5
        rintro _ w5 s5
        rw [deref_some']
        refine s5.S 1 rfl (by simp) trivial fun w6 s6 => ?_
        have s6 : St F0 w0 w6 (BoxA r [iv d, iv i, iv o, iv nn, slV sb, slV sp] :: BoxA z (wC g (planT g) dp x a b b false) :: TxA x dp (n + 5000) E.2 :: DiskA dp E.2.D :: RowsA a A :: RowsA b l :: L) := s6
        rw [hop] at s6
        have hg2 : ∃ C, OneOf A (some l) C ∧ Good E.2.D g (k + 1) C := by
          rw [hw.eg] at e3
          rcases e3 with h | h
          · exact ⟨_, .inl rfl, h⟩
          · refine ⟨CA l, .inr ⟨l, rfl, rfl⟩, ?_⟩
            obtain ⟨L0, g1, g2, g3, g4, g5⟩ := h
            have hP0 : L0.P = T.P := by
              show planT (supG L0.S) = T.P
              rw [g3, hw.P hg]
            obtain ⟨c1, c2⟩ := Law.congr g1 (C := CA l) fun j hj => by rw [g5]; exact (hpg j (by rw [← hP0]; exact hj)).symm
            exact ⟨_, c1, g2.mono c2, g3, g4, rfl⟩
        obtain ⟨C, hC1, hC2⟩ := hg2
        exact .inr ⟨rfl, x, a, b, b, false, A, some l, E.2.D, C, hw.fA, (fun l' hl' => by cases hl'; exact hfl), hcdb.le (by omega), e1, e2, hPw e1, hC1, hC2, s6.sel [1, 3, 4, 5, 0] 6⟩
  refine br_f (beq_eq_false_iff_ne.2 d1) ?_
  by_cases d2 : d = 2
  · refine br_t (beq_iff_eq.2 d2) ?_
    rw [deref_some']
    refine s1.L 1 rfl (p := some ⟨x, 0, none⟩) rfl ?_
    have s2 : St F0 w0 w1 (TxA x dp n T :: DiskA dp T.D :: BoxA r [iv d, iv i, iv o, iv nn, slV sb, slV sp] :: BoxA z (wC g (planT g) dp x a b ⟨none, 0, 0⟩ B.isSome) :: RowsA a A :: NowA b B :: L) := s1.sel [2, 3, 0, 1, 4, 5] 6
    refine abortC s2 hw.live.up fun w3 s3 => ?_
    have e : (if T.busy then T.ends else T).D = T.D := by split <;> rfl
    have hwi : WI g (k + 1) (N + 4300) A none (if T.busy then T.ends else T) := by
      split
      · exact hw.ends.mono (by omega) (by omega)
      · rename_i hb
        have hb : T.busy = false := by simpa using hb
        exact (⟨hw.live, hw.eg, hw.db, hw.fA, fun _ => hb, fun l hl => by cases hl⟩ : WI g k N A none T).mono (by omega) (by omega)
    have h5 : (if T.busy then (0 : Int) else 100) ≠ 5 := by split <;> decide
    generalize (if T.busy then (0 : Int) else 100) = c at h5 ⊢
    generalize (if T.busy then T.ends else T) = T' at s3 hwi e
    rw [← e] at s3
    have s3 : St F0 w0 w3 (BoxA r [iv d, iv i, iv o, iv nn, slV sb, slV sp] :: BoxA z (wC g (planT g) dp x a b ⟨none, 0, 0⟩ B.isSome) :: TxA x dp n T' :: DiskA dp T'.D :: RowsA a A :: L) := s3.sel [2, 3, 0, 1, 4] 6
    rw [deref_some']
    refine s3.S 1 rfl (by simp) trivial fun w6 s6 => ?_
    have s7 : St F0 w0 w6 (BoxA r [iv d, iv i, iv o, iv nn, slV sb, slV sp] :: BoxA z (wC g (planT g) dp x a b ⟨none, 0, 0⟩ false) :: TxA x dp n T' :: DiskA dp T'.D :: RowsA a A :: NowA b none :: L) := s6.nobig.sel [1, 2, 3, 4, 5, 0] 6
    exact .inl ⟨h5, x, a, b, A, none, T', n, hwi, by omega, fun h _ _ => by rw [e]; exact h, hL s7⟩
  refine br_f (beq_eq_false_iff_ne.2 d2) ?_
  by_cases d5 : d = 5
  · refine br_t (beq_iff_eq.2 d5) ?_
    rw [deref_some']
    refine s1.L 1 rfl (p := some ⟨x, 0, none⟩) rfl ?_
    have s2 : St F0 w0 w1 (TxA x dp n T :: DiskA dp T.D :: BoxA r [iv d, iv i, iv o, iv nn, slV sb, slV sp] :: BoxA z (wC g (planT g) dp x a b ⟨none, 0, 0⟩ B.isSome) :: RowsA a A :: NowA b B :: L) := s1.sel [2, 3, 0, 1, 4, 5] 6
    refine checkC s2 hw.live.up hw.db (by omega) fun w3 s3 => ?_
    by_cases hb : T.busy = true
    · rw [if_pos hb] at s3
      rw [if_pos hb]
      exact same (by decide) (by omega) (s3.sel [2, 3, 0, 1, 4, 5] 6)
    rw [if_neg hb] at s3
    rw [if_neg hb]
    have hb : T.busy = false := by simpa using hb
    have hB : B = none := by
      have := hw.bsome
      rw [hb] at this
      cases B with
      | none => rfl
      | some l => cases this
    subst hB
    obtain ⟨_, hcg, hcp, hcP, hcb, hcS⟩ := cpt_cases hw.live.up hw.db
    have hcdb := hcg.db
    have hlc := live_cpt hw.live (by omega) hw.db
    have hpw : C0 T.D → C0 T.cpt.2.D := fun h => h.cpt
    have hPw : Pw T.cpt.2.D := Pw.inv.cpt (fun h => by rw [hw.live.up.off] at h; cases h)
    generalize T.cpt = E at s3 hlc hcdb hcS hcb hpw hPw ⊢
    have s3 : St F0 w0 w3 (BoxA r [iv d, iv i, iv o, iv nn, slV sb, slV sp] :: BoxA z (wC g (planT g) dp x a b ⟨none, 0, 0⟩ false) :: TxA x dp n E.2 :: DiskA dp E.2.D :: RowsA a A :: NowA b none :: L) := s3.sel [2, 3, 0, 1, 4, 5] 6
    rcases hlc with ⟨e0, e1, _⟩ | ⟨e0, _, e1, e2, e3⟩
    · rw [e0]
      exact .inl ⟨by decide, x, a, b, A, none, E.2, n, ⟨e1, hcS.trans hw.eg, hcdb.le (by omega), hw.fA, fun _ => hcb.trans hb, fun l hl => by cases hl⟩, by omega, fun h _ _ => hpw h, hL s3⟩
    · rw [e0]
      rw [hop] at s3
      have s4 : St F0 w0 w3 (MayA ⟨none, 0, 0⟩ none :: op :: BoxA z (wC g (planT g) dp x a b ⟨none, 0, 0⟩ false) :: TxA x dp n E.2 :: DiskA dp E.2.D :: RowsA a A :: L) := (s3.sel [0, 1, 2, 3, 4] 6).mkp rfl
      rw [hw.eg] at e3
      exact .inr ⟨rfl, x, a, b, ⟨none, 0, 0⟩, false, A, none, E.2.D, CA A, hw.fA, (fun l' hl' => by cases hl'), hcdb.le (by omega), e1, e2, hPw e1, .inl rfl, e3, s4.sel [2, 4, 5, 0, 1] 6⟩
  refine br_f (beq_eq_false_iff_ne.2 d5) ?_
  by_cases d6 : d = 6
  · refine br_t (beq_iff_eq.2 d6) ?_
    rw [drw_def]
    have s1 := s1.drew
    generalize w1.drew = w1 at s1
    rw [deref_some']
    refine s1.L 1 rfl (p := some ⟨dp, 0, none⟩) rfl ?_
    refine s1.L 0 rfl (p := nn) rfl ?_
    refine s1.L 0 rfl (p := sp) rfl ?_
    have s2 : St F0 w0 w1 (DiskA dp T.D :: TxA x dp n T :: BoxA r [iv d, iv i, iv o, iv nn, slV sb, slV sp] :: BoxA z (wC g (planT g) dp x a b ⟨none, 0, 0⟩ B.isSome) :: RowsA a A :: NowA b B :: L) := s1.sel [3, 2, 0, 1, 4, 5] 6
    refine armR (n := imax nn 0) (p := sp) (l := lp) s2 hw.live.up.ok.D hrp hlp fun w3 s3 => ?_
    obtain ⟨ha1, ha2⟩ := hw.arm (pl := lp) (imax_ok hnn)
    rw [ha2] at s3
    have s4 := (s3.sel [1, 0, 2, 3, 4, 5] 6).tSame (E := { T.D with armed := imax nn 0, picks := lp }) rfl rfl
    exact .inl ⟨by decide, x, a, b, A, B, _, n, ha1.mono (by omega) (by omega), by omega, fun _ h => absurd d6 h, hL (s4.sel [2, 3, 0, 1, 4, 5] 6)⟩
  refine br_f (beq_eq_false_iff_ne.2 d6) ?_
  by_cases d7 : d = 7
  · refine br_t (beq_iff_eq.2 d7) ?_
    rw [drw_def]
    have s1 := s1.drew
    generalize w1.drew = w1 at s1
    rw [deref_some']
    refine s1.L 1 rfl (p := some ⟨dp, 0, none⟩) rfl ?_
    refine s1.L 0 rfl (p := sp) rfl ?_
    have s2 : St F0 w0 w1 (DiskA dp T.D :: TxA x dp n T :: BoxA r [iv d, iv i, iv o, iv nn, slV sb, slV sp] :: BoxA z (wC g (planT g) dp x a b ⟨none, 0, 0⟩ B.isSome) :: RowsA a A :: NowA b B :: L) := s1.sel [3, 2, 0, 1, 4, 5] 6
    refine crashR (p := sp) (pl := lp) s2 hw.db (by omega) hrp fun w3 s3 => ?_
    have e : crashD T.D lp = (0, fallsD T.D lp) := by unfold crashD; rw [hw.live.up.off]; rfl
    rw [e] at s3
    have hfd := falls_db hw.db lp
    have s3 : St F0 w0 w3 (BoxA r [iv d, iv i, iv o, iv nn, slV sb, slV sp] :: BoxA z (wC g (planT g) dp x a b ⟨none, 0, 0⟩ B.isSome) :: DiskA dp (fallsD T.D lp) :: RowsA a A :: L) := s3.sel [2, 3, 0, 4] 6
    refine s3.L 0 rfl (p := nn) rfl ?_
    refine s3.L 0 rfl (p := sb) rfl ?_
    rw [hop] at s3
    have s4 : St F0 w0 w3 (MayA ⟨none, 0, 0⟩ none :: op :: BoxA z (wC g (planT g) dp x a b ⟨none, 0, 0⟩ B.isSome) :: DiskA dp (fallsD T.D lp) :: RowsA a A :: L) := s3.mkp rfl
    have hgd : Good (fallsD T.D lp) g k (CA A) := by
      have := hw.live.good.falls hw.live.up.ok.D lp
      rw [hw.eg] at this
      exact this
    exact goneUp (p2 := sb) (pl := lb) (k := k) (N := N) hg ⟨x, a, b, ⟨none, 0, 0⟩, B.isSome, A, none, fallsD T.D lp, CA A, hw.fA, (fun l' hl' => by cases hl'), hfd.db, rfl, rfl, rfl, .inl rfl, hgd, s4.sel [2, 3, 4, 0, 1] 5⟩ (by omega) (by omega) hrb hlb (imax_ok hnn) fun w' h' => hK w' (Alive.mono (Alive.drop h') (by omega) (by omega) (by omega) fun T' _ _ _ h => absurd d7 h)
  refine br_f (beq_eq_false_iff_ne.2 d7) ?_
  exact same (by decide) (by omega) s1
end
end Go.Proofs

namespace Go.Eng
open Go.RowKit
theorem Grow.below {w w' : World} (h : Grow w w') : Below w.heap.size w w' := ⟨h.rest.1, h.rest.2.1, h.rest.2.2, h.size, fun k hk => h.same k hk fun h => h⟩
theorem row_num {n : Int} (h : (Lit.int .u8 n).wf = true) : (Value.int .u8 n) = ub (UInt8.ofNat n.toNat) := by
  have h2 : 0 ≤ n ∧ n ≤ 255 := by
    simp only [Lit.wf, IntKind.min, IntKind.max, IntKind.signed, IntKind.bits, Bool.and_eq_true, decide_eq_true_eq] at h
    simpa using h
  have h3 : ((UInt8.ofNat n.toNat).toNat : Int) = n := by simp; omega
  rw [ub, h3]
end Go.Eng

set_option maxRecDepth 100000
namespace Go.Proofs
open Go.Eng Go.ChangeShapes Go.WideShapes Go.ChangeAt Go.RowKit Go.Deep
theorem choose_below {α : Type} [Inhabited α] {n : Nat} {p : Nat → α → Prop} (h : ∀ i, i < n → ∃ x, p i x) : ∃ f : Nat → α, ∀ i, i < n → p i (f i) := by
  classical
  refine ⟨fun i => if hi : i < n then (h i hi).choose else default, fun i hi => ?_⟩
  dsimp only
  rw [dif_pos hi]
  exact (h i hi).choose_spec
theorem wf_i64 {n : Int} (h : (Lit.int .i64 n).wf = true) : -9223372036854775808 ≤ n ∧ n ≤ 9223372036854775807 := by
  simp only [Lit.wf, IntKind.min, IntKind.max, IntKind.signed, IntKind.bits, Bool.and_eq_true, decide_eq_true_eq] at h
  simpa using h
structure Tw where
  d : Int
  k : Int
  o : Int
  n : Int
  b : Sl
  p : Sl
def Tw.cells (x : Tw) : List Value := [iv x.d, iv x.k, iv x.o, iv x.n, slV x.b, slV x.p]
theorem Tw.cells_len (x : Tw) : x.cells.length = 6 := rfl
abbrev Tc := Tw × List UInt8 × List UInt8
def TLs (w : World) (s : Sl) (xs : List Tc) : Prop := SS Tw.cells w s (xs.map (·.1)) ∧ ∀ x ∈ xs, BS w x.1.b x.2.1 ∧ BS w x.1.p x.2.2 ∧ -9223372036854775808 ≤ x.1.n ∧ x.1.n ≤ 9223372036854775807
section
variable {H : Type} {enc : TypeId × Value → H} {W : World} {sp : Nat → Bool}
theorem open_bytesT {fuel : Nat} {v : Value} {x : DataW H × List MemPlace} (h : DataW.trod enc Tryz.prog W 0 sp true fuel 33 [v] = some x) :
    ∃ (s : Sl) (l : List UInt8), v = slV s ∧ BS W s l ∧ s.len ≤ s.cap := by
  rcases open_ints Tryz.underlying33 Tryz.underlying5 (by kernel_rfl) h with ⟨hcs, _⟩ | ⟨x, l, c, zs, hcs, _, hl, hm, hz, hr, hcell, hwz⟩
  · simp only [List.cons.injEq, and_true] at hcs
    exact ⟨⟨none, 0, 0⟩, [], hcs, BS.nil _ _, Nat.le_refl _⟩
  · simp only [List.cons.injEq, and_true] at hcs
    have hz' : l ≤ zs.length := by rw [hz]; split <;> omega
    refine ⟨⟨some x, l, c⟩, (zs.take l).map fun n => UInt8.ofNat n.toNat, hcs, ⟨by simp; omega, readsAt_row.2 fun j v hj => ?_⟩, hl⟩
    simp only [List.map_map, List.getElem?_map, List.getElem?_take] at hj
    split at hj
    · rename_i hlt
      have hjl : j < zs.length := by omega
      rw [hcell j hjl]
      simp only [hjl, List.getElem?_eq_getElem, Option.map_some, Option.some.injEq, Function.comp_apply] at hj
      subst hj
      rw [show zs.getD j 0 = zs[j] by simp [List.getD, hjl]]
      exact congrArg some (row_num (hwz _ (List.getElem_mem hjl)))
    · cases hj
theorem open_opT {fuel : Nat} {cs : List Value} {x : DataW H × List MemPlace} (h : DataW.trod enc Tryz.prog W 0 sp true fuel 35 cs = some x) :
    ∃ r : Tc, cs = r.1.cells ∧ BS W r.1.b r.2.1 ∧ BS W r.1.p r.2.2 ∧ -9223372036854775808 ≤ r.1.n ∧ r.1.n ≤ 9223372036854775807 := by
  obtain ⟨xs, n, _, _, hl, hxl, hf⟩ := DataW.trod_struct Tryz.underlying35 h
  have h5 : Tryz.prog.cellsOf 35 = 6 := by kernel_rfl
  have h3 : Tryz.prog.cellsOf 3 = 1 := by kernel_rfl
  have h33 : Tryz.prog.cellsOf 33 = 1 := by kernel_rfl
  rw [h5] at hl
  have hxl' : xs.length = 6 := hxl
  match cs, hl with
  | [v0, v1, v2, v3, v4, v5], _ =>
    have u0 : DataW.trod enc Tryz.prog W 0 sp true n 3 (([v0, v1, v2, v3, v4, v5].drop 0).take (Tryz.prog.cellsOf 3)) = xs[0]? := hf 0 _ rfl
    have u1 : DataW.trod enc Tryz.prog W 0 sp true n 3 (([v0, v1, v2, v3, v4, v5].drop 1).take (Tryz.prog.cellsOf 3)) = xs[1]? := hf 1 _ rfl
    have u2 : DataW.trod enc Tryz.prog W 0 sp true n 3 (([v0, v1, v2, v3, v4, v5].drop 2).take (Tryz.prog.cellsOf 3)) = xs[2]? := hf 2 _ rfl
    have u3 : DataW.trod enc Tryz.prog W 0 sp true n 3 (([v0, v1, v2, v3, v4, v5].drop 3).take (Tryz.prog.cellsOf 3)) = xs[3]? := hf 3 _ rfl
    have u4 : DataW.trod enc Tryz.prog W 0 sp true n 33 (([v0, v1, v2, v3, v4, v5].drop 4).take (Tryz.prog.cellsOf 33)) = xs[4]? := hf 4 _ rfl
    have u5 : DataW.trod enc Tryz.prog W 0 sp true n 33 (([v0, v1, v2, v3, v4, v5].drop 5).take (Tryz.prog.cellsOf 33)) = xs[5]? := hf 5 _ rfl
    rw [List.getElem?_eq_getElem (by omega), h3] at u0 u1 u2 u3
    rw [List.getElem?_eq_getElem (by omega), h33] at u4 u5
    simp only [List.drop, List.take] at u0 u1 u2 u3 u4 u5
    obtain ⟨q0, e0, _, _⟩ := DataW.trod_int Tryz.underlying3 u0
    obtain ⟨q1, e1, _, _⟩ := DataW.trod_int Tryz.underlying3 u1
    obtain ⟨q2, e2, _, _⟩ := DataW.trod_int Tryz.underlying3 u2
    obtain ⟨q3, e3, z1, z2⟩ := DataW.trod_int Tryz.underlying3 u3
    obtain ⟨s, l, e4, hs, _⟩ := open_bytesT u4
    obtain ⟨s2, l2, e5, hs2, _⟩ := open_bytesT u5
    simp only [List.cons.injEq, and_true] at e0 e1 e2 e3
    subst e0 e1 e2 e3 e4 e5
    exact ⟨(⟨q0, q1, q2, q3, s, s2⟩, l, l2), rfl, hs, hs2, wf_i64 z2⟩
theorem open_opsT {fuel : Nat} {v : Value} {x : DataW H × List MemPlace} (h : DataW.trod enc Tryz.prog W 0 sp true fuel 24 [v] = some x) :
    ∃ (s : Sl) (xs : List Tc), v = slV s ∧ TLs W s xs ∧ s.len ≤ s.cap := by
  rcases open_slice Tryz.underlying24 h with ⟨hcs, _⟩ | ⟨a, len, cap, m, n, D, Pl, hcs, hb, hl, hm, hmm, _, hx⟩
  · simp only [List.cons.injEq, and_true] at hcs
    exact ⟨⟨none, 0, 0⟩, [], hcs, ⟨SS.nil _ _, by simp⟩, Nat.le_refl _⟩
  · simp only [List.cons.injEq, and_true] at hcs
    have hlm : len ≤ m := by rw [hmm]; split <;> omega
    have h5 : Tryz.prog.cellsOf 35 = 6 := by kernel_rfl
    have : Inhabited Tc := ⟨(⟨0, 0, 0, 0, ⟨none, 0, 0⟩, ⟨none, 0, 0⟩⟩, [], [])⟩
    have each : ∀ i, i < len → ∃ r : Tc, Row W (a.add (i * 6)) r.1.cells ∧ BS W r.1.b r.2.1 ∧ BS W r.1.p r.2.2 ∧ -9223372036854775808 ≤ r.1.n ∧ r.1.n ≤ 9223372036854775807 := by
      intro i hi
      obtain ⟨cs', h1, h2⟩ := hx i (by omega)
      rw [h5] at h1
      obtain ⟨_, hlen, hcell⟩ := World.cells?_some h1
      obtain ⟨r, rfl, hr⟩ := open_opT h2
      refine ⟨r, fun j v hj => ?_, hr⟩
      have hj5 : j < 6 := by
        rcases Nat.lt_or_ge j 6 with h' | h'
        · exact h'
        · rw [List.getElem?_eq_none (by rw [Tw.cells_len]; exact h')] at hj; cases hj
      rw [hcell j hj5, hj]
    obtain ⟨f, hf⟩ := choose_below each
    refine ⟨⟨some a, len, cap⟩, (List.range len).map f, hcs, ⟨⟨by simp, ?_⟩, fun x hx => ?_⟩, hl⟩
    · refine readsAt_row.2 ((flatMap_row Tw.cells_len).2 fun i r hi => ?_)
      have hil : i < len := by
        rcases Nat.lt_or_ge i len with h' | h'
        · exact h'
        · rw [List.getElem?_eq_none (by simpa using h')] at hi; cases hi
      simp [hil] at hi
      subst hi
      exact (hf i hil).1
    · obtain ⟨i, hi, rfl⟩ := List.mem_map.1 hx
      exact (hf i (List.mem_range.1 hi)).2
theorem open_geoT {fuel : Nat} {cs : List Value} {x : DataW H × List MemPlace} (h : DataW.trod enc Tryz.prog W 0 sp true fuel 23 cs = some x) :
    ∃ a b c d : Int, cs = [iv a, iv b, iv c, iv d] := by
  obtain ⟨xs, n, _, _, hl, hxl, hf⟩ := DataW.trod_struct Tryz.underlying23 h
  have h5 : Tryz.prog.cellsOf 23 = 4 := by kernel_rfl
  have h3 : Tryz.prog.cellsOf 3 = 1 := by kernel_rfl
  rw [h5] at hl
  have hxl' : xs.length = 4 := hxl
  match cs, hl with
  | [v0, v1, v2, v3], _ =>
    have u0 : DataW.trod enc Tryz.prog W 0 sp true n 3 (([v0, v1, v2, v3].drop 0).take (Tryz.prog.cellsOf 3)) = xs[0]? := hf 0 _ rfl
    have u1 : DataW.trod enc Tryz.prog W 0 sp true n 3 (([v0, v1, v2, v3].drop 1).take (Tryz.prog.cellsOf 3)) = xs[1]? := hf 1 _ rfl
    have u2 : DataW.trod enc Tryz.prog W 0 sp true n 3 (([v0, v1, v2, v3].drop 2).take (Tryz.prog.cellsOf 3)) = xs[2]? := hf 2 _ rfl
    have u3 : DataW.trod enc Tryz.prog W 0 sp true n 3 (([v0, v1, v2, v3].drop 3).take (Tryz.prog.cellsOf 3)) = xs[3]? := hf 3 _ rfl
    rw [List.getElem?_eq_getElem (by omega), h3] at u0 u1 u2 u3
    simp only [List.drop, List.take] at u0 u1 u2 u3
    obtain ⟨q0, e0, _, _⟩ := DataW.trod_int Tryz.underlying3 u0
    obtain ⟨q1, e1, _, _⟩ := DataW.trod_int Tryz.underlying3 u1
    obtain ⟨q2, e2, _, _⟩ := DataW.trod_int Tryz.underlying3 u2
    obtain ⟨q3, e3, _, _⟩ := DataW.trod_int Tryz.underlying3 u3
    simp only [List.cons.injEq, and_true] at e0 e1 e2 e3
    subst e0 e1 e2 e3
    exact ⟨q0, q1, q2, q3, rfl⟩
end
end Go.Proofs

set_option maxRecDepth 20000
namespace Go.Proofs
open Go.Eng
def smallT (x : Tc) : Prop := x.2.1.length ≤ 600 ∧ x.2.2.length ≤ 2000
instance (x : Tc) : Decidable (smallT x) := by unfold smallT; exact inferInstance
theorem TLs.take {w : World} {s : Sl} {xs : List Tc} (h : TLs w s xs) {e : Nat} (he : e ≤ s.len) (c : Nat) : TLs w ⟨s.a, e, c⟩ (xs.take e) := by
  refine ⟨?_, fun x hx => h.2 x (List.mem_of_mem_take hx)⟩
  have := h.1.take Tw.cells_len he c
  rwa [← List.map_take] at this
theorem TLs.len {w : World} {s : Sl} {xs : List Tc} (h : TLs w s xs) : s.len = xs.length := by rw [h.1.len]; simp
theorem TLs.grow {w w' : World} {s : Sl} {xs : List Tc} (h : TLs w s xs) (g : Grow w w') : TLs w' s xs := ⟨h.1.grow g, fun x hx => ⟨(h.2 x hx).1.grow g, (h.2 x hx).2.1.grow g, (h.2 x hx).2.2⟩⟩
def Tw.p6 (x : Tw) : Int × Int × Int × Int × Sl × Sl := (x.d, x.k, x.o, x.n, x.b, x.p)
theorem fewC {s : Sl} {xs : List Tc} {w : World} {K : Sl × Bool → Pr} (h : TLs w s xs) (hle : s.len ≤ s.cap)
    (k0 : ∀ w', Grow w w' → K (⟨none, 0, 0⟩, false) w') (k1 : ∀ t ys w', Grow w w' → (∀ W, TLs W s xs → TLs W t ys) → ys.length ≤ 60 → (∀ x ∈ ys, smallT x) → K (t, true) w') : callF Tryz.prog 10 [slV s] [.c .slice, .c .bool] K w := by
  refine callF_of (post := K) (F10_calls _ _ _ ?_) fun _ _ h => h
  unfold F10
  have hl := h.len
  obtain ⟨e, he, he2⟩ : ∃ e : Nat, imin (s.len : Int) 60 = e ∧ e ≤ s.len ∧ e ≤ 60 := ⟨(imin (s.len : Int) 60).toNat, by unfold imin; split <;> omega, by unfold imin; split <;> omega, by unfold imin; split <;> omega⟩
  rw [he]
  refine slc_hi (by omega) (by omega) ?_
  rw [map_add_zero, ite_self, Int.toNat_natCast]
  have hall : ∀ W, TLs W s xs → TLs W ⟨s.a, e, s.cap⟩ (xs.take e) := fun W hW => hW.take he2.1 s.cap
  have ht := hall w h
  generalize (⟨s.a, e, s.cap⟩ : Sl) = t at ht hall
  have htl := ht.len
  have hel : (xs.take e).length ≤ 60 := by rw [List.length_take]; omega
  generalize xs.take e = ys at ht htl hel hall
  refine loop_of (fun i W => ∃ j : Nat, i = j ∧ j ≤ ys.length ∧ Grow w W ∧ ∀ x ∈ ys.take j, smallT x) (fun i _ => ys.length - i.toNat) ⟨0, rfl, by omega, Mod.refl _ w, by simp⟩ ?_
  rintro _ W ⟨j, rfl, hj, g, hs⟩
  refine br_of (fun hlt => ?_) fun hge => ?_
  · have hlt : j < ys.length := by simpa [htl] using hlt
    have hx : ys[j]? = some ys[j] := by simp [hlt]
    refine SS.eld Tw.cells_len (ht.1.grow g) (r := ys[j].1) (by rw [List.getElem?_map, hx]; rfl) (by decide) (p := ys[j].1.p6) rfl ?_
    refine St.nvs (St.init0 W) rfl (fun v hv => by simp at hv; rcases hv with rfl | rfl | rfl | rfl | rfl | rfl <;> trivial) fun b W2 t3 => ?_
    have hb := (ht.2 _ (List.getElem_mem hlt))
    have h1 := hb.1.len
    have h2 := hb.2.1.len
    refine jn_of (fun c W' => c = decide (¬ smallT ys[j]) ∧ W2 = W') ?_ ?_
    · refine t3.L 0 rfl (p := ys[j].1.b) rfl ?_
      refine br_of (fun a => ?_) fun a => ?_
      · have a := of_decide_eq_true a
        have hns : ¬ smallT ys[j] := fun h => by have := h.1; omega
        exact ⟨(decide_eq_true hns).symm, rfl⟩
      · have a := of_decide_eq_false a
        refine t3.L 0 rfl (p := ys[j].1.p) rfl ?_
        exact ⟨decide_eq_decide.2 (by unfold smallT; omega), rfl⟩
    rintro _ _ ⟨rfl, rfl⟩
    have g2 := Grow.trans g t3.gro
    refine br_of (fun a => k0 _ g2) fun a => ?_
    have a : smallT ys[j] := by simpa using a
    rw [w64_succ (by omega)]
    refine ⟨⟨j + 1, rfl, hlt, g2, fun x hx' => ?_⟩, by show ys.length - (((j + 1 : Nat) : Int)).toNat < ys.length - ((j : Int)).toNat; omega⟩
    rw [List.take_add_one, hx, List.mem_append] at hx'
    rcases hx' with hx' | hx'
    · exact hs x hx'
    · simp at hx'; subst hx'; exact a
  · have hge : j = ys.length := by simp [htl] at hge; omega
    subst hge
    rw [List.take_length] at hs
    exact k1 t ys W g hall hel hs
section
variable {g : Geo} {w w0 : World} {F0 : Nat → Prop} {L : List HA}
theorem fits_zero {g : Geo} (hg : geoE g = 0) : Fits g (List.replicate g.1.toNat zero256) := ⟨by have := geo_le hg; rw [List.length_replicate]; omega, fun l hl => by rw [(List.mem_replicate.1 hl).2]; exact List.length_replicate⟩
theorem CA_zero {n : Nat} {i : Int} (h : 0 ≤ i ∧ i < n) : CA (List.replicate n zero256) i = zero256 := by
  unfold CA
  rw [List.getElem?_replicate, if_pos (by omega)]; rfl
theorem freshC {K : Option Addr → Pr} (hg : geoE g = 0) (h : St F0 w0 w L) (hK : ∀ (z dp x n : Nat) (a b : Sl) (T : TM) w', WI g 3 7100 (List.replicate g.1.toNat zero256) none T → C0 T.D → n ≤ 0 → St F0 w0 w' (wSt g dp x z n a b (List.replicate g.1.toNat zero256) none T L) → K (some ⟨z, 0, none⟩) w') : callF Tryz.prog 14 [g.v] [.c .ptr] K w := by
  refine callF_of (post := K) (F14_calls _ _ _ _ _ _ ?_) fun _ _ h => h
  unfold F14
  have hgl := geo_le hg
  have hof : ofG g = (planT g, 0) := by unfold ofG; rw [if_pos hg]
  refine St.nw h fun r w1 s1 _ _ => ?_
  have s1 : St F0 w0 w1 (BoxA r (gcells g) :: L) := s1
  refine s1.LA 0 rfl (p := g) rfl ?_
  refine callF_of (V49 g w1) ?_
  rintro _ w2 ⟨rfl, g2⟩
  rw [hof]
  refine (s1.grow g2).nvs rfl (na_p (planT g)) fun r1 w3 s3 => ?_
  have s3 : St F0 w0 w3 (BoxA r1 (pcells (planT g)) :: BoxA r (gcells g) :: L) := s3
  refine s3.L 1 rfl (p := g.1) rfl ?_
  refine callF_of (C30 g.1 w3) ?_
  rintro ⟨dp, e⟩ w4 hr
  rw [if_pos ⟨hgl.1, hgl.2⟩] at hr
  obtain ⟨he, dp, hdp, k4⟩ := hr
  dsimp only at he hdp k4
  subst he hdp
  have s4 : St F0 w0 w4 (DiskA dp (newD g.1.toNat) :: BoxA r1 (pcells (planT g)) :: BoxA r (gcells g) :: L) := s3.call0 k4
  obtain ⟨f1, f2, f3, f4⟩ := format_ok hg
  have hD0 := newD_db (n := g.1.toNat) (by omega) (by omega)
  refine jn_of (fun c W => c = false ∧ St F0 w0 W (DiskA dp (formatD (newD g.1.toNat) g).2 :: BoxA r1 (pcells (planT g)) :: BoxA r (gcells g) :: L)) ?_ ?_
  · refine br_f rfl (br_f rfl ⟨trivial, br_f rfl ?_⟩)
    refine s4.LA 2 rfl (p := g) rfl ?_
    refine formatC s4 hD0 (by omega) fun w5 s5 => ?_
    rw [f1]
    exact ⟨rfl, s5⟩
  generalize formatD (newD g.1.toNat) g = E at f1 f2 f3 f4
  rintro _ w5 ⟨rfl, s5⟩
  refine br_f rfl ?_
  have hDA := f4.db
  obtain ⟨ho, hog⟩ := live_open f3 hDA f2.2 (by omega)
  have hoc := f2.openT
  rcases ho with ⟨⟨o1, o2⟩, o3, o4, o5⟩ | ⟨o1, _⟩
  rotate_left
  · exact absurd o1 hoc.on
  refine openC s5 hDA (by omega) (fun h => absurd o1 h) fun _ x w6 s6 => ?_
  have s6 : St F0 w0 w6 (TxA x dp 0 (T0 E.2) :: DiskA dp (T0 E.2).D :: BoxA r1 (pcells (planT g)) :: BoxA r (gcells g) :: L) := s6
  refine jn_of (fun c W => c = false ∧ w6 = W) ?_ ?_
  · exact br_f rfl ⟨trivial, rfl, rfl⟩
  rintro _ _ ⟨rfl, rfl⟩
  refine br_f rfl ?_
  refine s6.LA 3 rfl (p := g) rfl ?_
  refine s6.LA 2 rfl (p := planT g) rfl ?_
  refine St.nw s6 fun z w7 s7 _ _ => ?_
  have s7 : St F0 w0 w7 (BoxA z (wC g (planT g) dp x ⟨none, 0, 0⟩ ⟨none, 0, 0⟩ ⟨none, 0, 0⟩ false) :: TxA x dp 0 (T0 E.2) :: DiskA dp (T0 E.2).D :: BoxA r1 (pcells (planT g)) :: BoxA r (gcells g) :: L) := s7
  refine s7.L 4 rfl (p := g.1) rfl ?_
  have hwi : WI g 3 7100 (List.replicate g.1.toNat zero256) none (T0 E.2) := by
    refine ⟨o4.congr fun i hi => ?_, o5, hog.db.le (by omega), fits_zero hg, fun _ => rfl, fun l hl => by cases hl⟩
    have hr := usable_lt o4.up.ok hi
    have : ((T0 E.2).D.blocks.length : Int) = g.1 := by rw [o4.up.ok.len]; exact congrArg (·.1) o5
    exact CA_zero (by omega)
  refine loop_of (fun i W => ∃ (j : Nat) (a : Sl), i = j ∧ (j : Int) ≤ g.1 ∧ St F0 w0 W (BoxA z (wC g (planT g) dp x a ⟨none, 0, 0⟩ ⟨none, 0, 0⟩ false) :: RowsA a (List.replicate j zero256) :: TxA x dp 0 (T0 E.2) :: DiskA dp (T0 E.2).D :: L)) (fun i _ => (g.1 - i).toNat) ⟨0, ⟨none, 0, 0⟩, rfl, by omega, (rowsNil (s7.sel [0, 1, 2] 5)).sel [1, 0, 2, 3] 4⟩ ?_
  rintro _ W ⟨j, a, rfl, hj, s8⟩
  refine br_of (fun hlt => ?_) fun hge => ?_
  · have hlt : (j : Int) < g.1 := of_decide_eq_true hlt
    refine jn_of (fun _ W' => ∃ a', St F0 w0 W' (BoxA z (wC g (planT g) dp x a' ⟨none, 0, 0⟩ ⟨none, 0, 0⟩ false) :: RowsA a' (List.replicate (j + 1) zero256) :: TxA x dp 0 (T0 E.2) :: DiskA dp (T0 E.2).D :: L)) ?_ ?_
    · rw [drw_def]
      have s8 := s8.drew
      generalize W.drew = W1 at s8
      refine jn_of (fun c W' => ∃ t, c = ((some ⟨z, 0, none⟩ : Option Addr), a, t) ∧ St F0 w0 W' (SlA 1 t (zero256.map ub) :: BoxA z (wC g (planT g) dp x a ⟨none, 0, 0⟩ ⟨none, 0, 0⟩ false) :: RowsA a (List.replicate j zero256) :: TxA x dp 0 (T0 E.2) :: DiskA dp (T0 E.2).D :: L)) ?_ ?_
      · refine ⟨?_, ?_⟩
        · refine s8.L 0 rfl (p := a) rfl ?_
          refine s8.mkSi 256 rfl rfl (by decide) (by decide) fun t w2 s9 _ => ?_
          rw [show zc [uv 0] 256 = zero256.map ub from zc_u8 256] at s9
          exact ⟨t, rfl, s9⟩
        · refine s8.mkSi 256 rfl rfl (by decide) (by decide) fun t w2 s9 _ => ?_
          rw [show zc [uv 0] 256 = zero256.map ub from zc_u8 256] at s9
          refine s9.L 1 rfl (p := a) rfl ?_
          exact ⟨t, rfl, s9⟩
      rintro _ W2 ⟨t, rfl, s9⟩
      refine St.nw s9 fun q w3 s10 _ _ => ?_
      have s10 : St F0 w0 w3 (BoxA q [slV t] :: SlA 1 t (zero256.map ub) :: RowsA a (List.replicate j zero256) :: BoxA z (wC g (planT g) dp x a ⟨none, 0, 0⟩ ⟨none, 0, 0⟩ false) :: TxA x dp 0 (T0 E.2) :: DiskA dp (T0 E.2).D :: L) := s10.sel [0, 1, 3, 2, 4, 5] 6
      dsimp only
      refine rowPush s10 (by rw [List.length_replicate]; omega) fun a' w4 s11 => ?_
      rw [deref_some']
      refine s11.S 2 rfl (by simp) (by simp) fun w5 s12 => ?_
      have s12 : St F0 w0 w5 (RowsA a' (List.replicate j zero256 ++ [zero256]) :: BoxA q [slV t] :: BoxA z (wC g (planT g) dp x a' ⟨none, 0, 0⟩ ⟨none, 0, 0⟩ false) :: TxA x dp 0 (T0 E.2) :: DiskA dp (T0 E.2).D :: L) := s12
      rw [show List.replicate j zero256 ++ [zero256] = List.replicate (j + 1) zero256 from List.replicate_succ'.symm] at s12
      exact ⟨a', s12.sel [2, 0, 3, 4] 5⟩
    rintro _ W2 ⟨a', s9⟩
    rw [w64_succ (by omega)]
    exact ⟨⟨j + 1, a', rfl, by omega, s9⟩, by show (g.1 - ((j + 1 : Nat) : Int)).toNat < (g.1 - (j : Int)).toNat; omega⟩
  · have hge : ¬ (j : Int) < g.1 := of_decide_eq_false hge
    have e : j = g.1.toNat := by omega
    subst e
    exact hK z dp x 0 a ⟨none, 0, 0⟩ (T0 E.2) W hwi hoc (by omega) (s8.nobig.sel [1, 3, 4, 2, 0] 5)
end
end Go.Proofs

set_option maxRecDepth 20000
namespace Go.Proofs
open Go.Eng
section
variable {g : Geo} {dp z : Nat} {w w0 : World} {L : List HA}
theorem actC {k N n : Nat} {x : Tc} {K : Bool → Pr} (hg : geoE g = 0) (h : Alive noF w0 g dp z k N n L (fun _ => True) w) (hx : BS w0 x.1.b x.2.1 ∧ BS w0 x.1.p x.2.2 ∧ -9223372036854775808 ≤ x.1.n ∧ x.1.n ≤ 9223372036854775807) (hs : smallT x) (hk : k ≤ 1000000) (hN : N ≤ 780000) (hn : n ≤ 9000000)
    (hK : ∀ w', Alive noF w0 g dp z (k + 4) (N + 9000) (n + 10000) L (fun _ => True) w' → K true w') : callF Tryz.prog 15 [P0 z, .agg #[iv x.1.d, iv x.1.k, iv x.1.o, iv x.1.n, slV x.1.b, slV x.1.p]] [.c .bool] K w := by
  obtain ⟨y, a, b, A, B, T, n', h1, h2, _, h4⟩ := h
  refine doesC hg h4 h1 hk hN (by omega) (Rd.noF hx.1) (Rd.noF hx.2.1) (by have := hs.1; omega) (by have := hs.2; omega) hx.2.2 fun w' h' => hK w' (Alive.mono h' (by omega) (by omega) (by omega) fun _ _ => trivial)
theorem alive_gro {k N n : Nat} {q : TM → Prop} (h : Alive noF w0 g dp z k N n L q w) : Grow w0 w := by
  obtain ⟨y, a, b, A, B, T, n', _, _, _, h4⟩ := h
  exact h4.gro
theorem alive_nvs {k N n : Nat} {q : TM → Prop} {E : TypeId} {zs vs : List Value} {f : Nat → Pr} (h : Alive noF w0 g dp z k N n L q w) (hl : zs.length = vs.length) (hv : ∀ v ∈ vs, NotAgg v) (hk : ∀ r w', Box w' r vs → Alive noF w0 g dp z k N n L q w' → f r w') : nvs E zs vs f w := by
  obtain ⟨y, a, b, A, B, T, n', h1, h2, h3, h4⟩ := h
  refine h4.nvs hl hv fun r w2 s2 => hk r w2 s2.box ⟨y, a, b, A, B, T, n', h1, h2, h3, s2.drop⟩
theorem boxLA {b : Nat} {vs : List Value} {cs : List CS} {p : PayA cs} {k : PayA cs → Pr} (hb : Box w b vs) (hv : vs = valA cs p) (hk : k p w) : ldA cs (bA b 0) k w := by
  subst hv
  have := Box.ldA hb hk
  unfold bA
  rwa [add_zero']
theorem scriptC {t : Sl} {ys : List Tc} {k N n : Nat} {Kf K : Pr} (hg : geoE g = 0) (h : Alive noF w0 g dp z k N n L (fun _ => True) w) (ht : TLs w0 t ys) (hl : ys.length ≤ 60) (hs : ∀ x ∈ ys, smallT x) (hk : k ≤ 900000) (hN : N ≤ 200000) (hn : n ≤ 1000000)
    (hK : ∀ w', Alive noF w0 g dp z (k + 240) (N + 540000) (n + 600000) L (fun _ => True) w' → K w') :
    loopE (S := Int) (fun X s_1 =>
      br (decide (s_1 < (t.len : Int))) (
      el t s_1 6 fun a_3 =>
      ldA [.int .i64, .int .i64, .int .i64, .int .i64, .slice, .slice] a_3 fun (t41 : Int × Int × Int × Int × Sl × Sl) =>
      nvs 35 [(iv 0), (iv 0), (iv 0), (iv 0), (.slice none 0 0), (.slice none 0 0)] [(iv t41.1), (iv t41.2.1), (iv t41.2.2.1), (iv t41.2.2.2.1), (slV t41.2.2.2.2.1), (slV t41.2.2.2.2.2)] fun r_1 =>
      ldA [.int .i64, .int .i64, .int .i64, .int .i64, .slice, .slice] (bA r_1 0) fun (t43 : Int × Int × Int × Int × Sl × Sl) =>
      callF Tryz.prog 15 [(.pointer (some ⟨z, 0, none⟩)), (.agg #[(iv t43.1), (iv t43.2.1), (iv t43.2.2.1), (iv t43.2.2.2.1), (slV t43.2.2.2.2.1), (slV t43.2.2.2.2.2)])] [.c .bool] fun (t44 : Bool) =>
      br (!t44) Kf (X ((w64 (s_1 + 1))))) K) 0 w := by
  have htl := ht.len
  refine loop_of (fun i W => ∃ j : Nat, i = j ∧ j ≤ ys.length ∧ Alive noF w0 g dp z (k + 4 * j) (N + 9000 * j) (n + 10000 * j) L (fun _ => True) W) (fun i _ => ys.length - i.toNat) ⟨0, rfl, by omega, h⟩ ?_
  rintro _ W ⟨j, rfl, hj, h1⟩
  refine br_of (fun hlt => ?_) fun hge => ?_
  · have hlt : j < ys.length := by simpa [htl] using hlt
    have hx : ys[j]? = some ys[j] := by simp [hlt]
    have hm := List.getElem_mem hlt
    have hgr := alive_gro h1
    refine SS.eld Tw.cells_len (ht.1.grow hgr) (r := ys[j].1) (by rw [List.getElem?_map, hx]; rfl) (by decide) (p := ys[j].1.p6) rfl ?_
    have hb := ht.2 _ hm
    have hsx := hs _ hm
    generalize ys[j] = x at hb hsx
    refine alive_nvs h1 rfl (fun v hv => by simp at hv; rcases hv with rfl | rfl | rfl | rfl | rfl | rfl <;> trivial) fun r W2 bx h2 => ?_
    refine boxLA (p := x.1.p6) bx rfl ?_
    refine actC (x := x) hg h2 hb hsx (by omega) (by omega) (by omega) fun W3 h3 => br_f rfl ?_
    rw [w64_succ (by omega)]
    exact ⟨⟨j + 1, rfl, hlt, Alive.mono h3 (by omega) (by omega) (by omega) fun _ h => h⟩, by show ys.length - (((j + 1 : Nat) : Int)).toNat < ys.length - ((j : Int)).toNat; omega⟩
  · exact hK W (Alive.mono h1 (by omega) (by omega) (by omega) fun _ h => h)
end
end Go.Proofs

set_option maxRecDepth 20000
namespace Go.Proofs
open Go.Eng
section
variable {g : Geo} {dp x z r N k n : Nat} {T : TM} {w w0 : World} {F0 : Nat → Prop} {L : List HA}
theorem busyC {K : Bool → Pr} (h : St F0 w0 w (TxA x dp n T :: L)) (hK : K T.busy w) : callF Tryz.prog 21 [P0 x] [.c .bool] K w := by
  obtain ⟨i, hp, s⟩ := h.tOpen
  refine callF_of (V21 s.box) ?_
  rintro _ _ ⟨rfl, rfl⟩
  exact hK
end
end Go.Proofs

set_option maxRecDepth 20000
namespace Go.Proofs
open Go.Eng
theorem flat_drop : ∀ (bs : List (List UInt8)), (∀ b ∈ bs, b.length = 256) → 2 ≤ bs.length → bs.flatten.drop 512 = (bs.drop 2).flatten ∧ bs.flatten.length = 256 * bs.length
  | [], _, h => by simp at h
  | [a], _, h => by simp at h
  | a :: b :: bs, hb, _ => by
    have ha := hb a (by simp)
    have hbb := hb b (by simp)
    refine ⟨?_, ?_⟩
    · simp only [List.flatten_cons, List.drop_succ_cons, List.drop_zero]
      rw [← List.append_assoc]
      exact List.drop_left' (by simp [ha, hbb])
    · have : ∀ (l : List (List UInt8)), (∀ b ∈ l, b.length = 256) → l.flatten.length = 256 * l.length := by
        intro l
        induction l with
        | nil => simp
        | cons x l ih =>
          intro h
          rw [List.flatten_cons, List.length_append, h x (by simp), ih fun b hb => h b (by simp [hb]), List.length_cons]; omega
      exact this _ hb
def GoodE (D : DM) (g : Geo) (k : Nat) (C : Int → List UInt8) : Prop := ∃ l : Law, l.ok D.blocks.length ∧ Al D l.sector ∧ supG l.S = g ∧ few l.S k ∧ l.C = C ∧ l.R = []
theorem Live.goodE {T : TM} {k : Nat} {C : Int → List UInt8} (h : Live T k C) (hR : T.R = []) : GoodE T.D (supG T.S) k C := ⟨T.law C, h.ok, h.al, rfl, h.few, rfl, hR⟩
theorem GoodE.same {D E : DM} {g : Geo} {k : Nat} {C : Int → List UInt8} (h : GoodE D g k C) (hb : E.blocks = D.blocks) (hw : E.wait = D.wait) : GoodE E g k C := by
  obtain ⟨l, h1, h2, h3⟩ := h
  exact ⟨l, law_len h1 (by rw [hb]), h2.same hb hw, h3⟩
theorem open_same {D : DM} {N k : Nat} {g : Geo} {C : Int → List UInt8} (h : GoodE D g k C) (hD : DB N D) (hc : C0 D) (hw : D.wait = []) (hk : k ≤ 100000000) : (openT D).2.blocks.drop 2 = D.blocks.drop 2 := by
  obtain ⟨l, hl, ha, hg, hf, rfl, hR⟩ := h
  have hf1 := hf.1
  have hf2 := hf.2
  have e1 : l.h = l.S.2.2.2.2.2 := rfl
  obtain ⟨ho1, hdg⟩ := open_ok hl hD hc.2 ha (by omega) (by omega)
  have hL : l.L = [] := by show (com l.R).1 = []; rw [hR]; rfl
  rcases ho1 with ⟨⟨o1, o2⟩, o3, _, o4, o5⟩ | ⟨o1, _⟩
  rotate_left
  · exact absurd o1 hc.openT.on
  have hrd : ∀ b : Int, 2 ≤ b → rdD (openT D).2 b = rdD D b := fun b hb => by
    by_cases hu : usableS l.P b
    · rw [o4 b hu, ← redone hl hD.ok ha hu, hL]; rfl
    · exact o5 b hb hu
  refine List.ext_getElem? fun i => ?_
  rw [List.getElem?_drop, List.getElem?_drop]
  have h1 := hrd ((2 + i : Nat) : Int) (by omega)
  rw [rd_none o3, rd_none hw, Int.toNat_natCast] at h1
  by_cases hi : 2 + i < D.blocks.length
  · rw [List.getElem?_eq_getElem hi, List.getElem?_eq_getElem (by rw [hdg.len]; exact hi)] at h1 ⊢
    exact congrArg some h1
  · rw [List.getElem?_eq_none (by rw [hdg.len]; omega), List.getElem?_eq_none (by omega)]
section
variable {g : Geo} {dp x z r N k n : Nat} {w w0 : World} {F0 : Nat → Prop} {L : List HA} {D : DM}
theorem imageC {K : Sl → Pr} (h : St F0 w0 w (DiskA dp D :: L)) (hD : D.ok) (hK : ∀ t w', St F0 w0 w' (SlA 1 t (D.blocks.flatten.map ub) :: DiskA dp D :: L) → K t w') : callF Tryz.prog 25 [P0 dp] [.c .slice] K w := by
  obtain ⟨G, H, g2, _, _, _, gc⟩ := St.call [DiskA dp D] h
  refine callF_of (C54 dp D w G g2 hD) ?_
  rintro t w1 s1
  exact hK t w1 (h.call0 s1)
theorem cycleD {D : DM} (hw : D.wait = []) : (onD (fallsD D [])).blocks = D.blocks ∧ (onD (fallsD D [])).wait = [] := by
  refine ⟨?_, rfl⟩
  show fallGo D.blocks D.wait [] = D.blocks
  rw [hw]; rfl
end
theorem law5 (q0 q1 q2 q3 : Int) (s : Sl) (xs : List Tc) (s2 : Sl) (l2 : List UInt8) (w : World) (h : TLs w s xs) (hle : s.len ≤ s.cap) (h2 : BS w s2 l2) : Calls Tryz.prog 5 #[.agg #[iv q0, iv q1, iv q2, iv q3], slV s, slV s2] w (RetT [.c .bool] fun r w' => r = true ∧ Grow w w') := by
  refine F5_calls _ _ _ _ _ _ _ _ ?_
  unfold F5
  obtain ⟨g, hgg⟩ : ∃ g : Geo, g = (q0, q1, q2, q3) := ⟨_, rfl⟩
  refine St.nw (St.init0 w) fun r w1 s1 _ _ => ?_
  have s1 : St noF w w1 [BoxA r (gcells g)] := by rw [hgg]; exact s1
  have hl2 := h2.len
  refine fewC (K := _) (h.grow s1.gro) hle (fun w2 g2 => ?_) fun t ys w2 g2 ht hl hs => ?_
  · refine jn_of (fun c W' => c = true ∧ St noF w W' [BoxA r (gcells g)]) ?_ ?_
    · refine begunC (s1.grow g2) fun w3 s3 => br_f rfl ?_
      exact br_t rfl ⟨rfl, s3⟩
    rintro _ W' ⟨rfl, s3⟩
    exact br_t rfl (begunC s3 fun w4 s4 => ⟨rfl, s4.gro⟩)
  refine jn_of (fun c W' => (c = false → g.1 ≤ 300 ∧ geoE g = 0 ∧ s2.len ≤ 2000) ∧ St noF w W' [BoxA r (gcells g)]) ?_ ?_
  · refine begunC (s1.grow g2) fun w3 s3 => br_f rfl (br_f rfl ?_)
    refine s3.LA 0 rfl (p := g) rfl ?_
    refine callF_of (V12 g w3) ?_
    rintro _ w4 ⟨rfl, g4⟩
    have s4 := s3.grow g4
    refine br_of (fun _ => ⟨fun h => (by cases h), s4⟩) fun h300 => ?_
    refine s4.LA 0 rfl (p := g) rfl ?_
    refine callF_of (V13 g w4) ?_
    rintro _ w5 ⟨rfl, g5⟩
    refine br_of (fun _ => ⟨fun h => (by cases h), s4.grow g5⟩) fun hge => ?_
    exact ⟨fun hz => ⟨by simpa using h300, by simpa using hge, by have := of_decide_eq_false hz; omega⟩, s4.grow g5⟩
  rintro c W ⟨hc, s3⟩
  refine br_of (fun _ => begunC s3 fun w4 s4 => ⟨rfl, s4.gro⟩) fun hcf => ?_
  obtain ⟨h300, hg, h2000⟩ := hc hcf
  have hgl := geo_le hg
  have hof : ofG g = (planT g, 0) := by unfold ofG; rw [if_pos hg]
  have hpg := plan_gt (ofG_ok (g := g) (by rw [hof])).1
  have hpl := (ofG_ok (g := g) (by rw [hof])).2.1
  have hgn : 8 ≤ g.2.1 := (ofG_ok (g := g) (by rw [hof])).1.1.1
  refine s3.LA 0 rfl (p := g) rfl ?_
  refine freshC hg s3 fun z dp x n a b T w4 hw hc0 hn s4 => ?_
  refine ⟨trivial, br_f rfl ?_⟩
  have ha : Alive noF w g dp z 3 7100 0 [BoxA r (gcells g)] (fun _ => True) w4 := ⟨x, a, b, _, none, T, n, hw, hn, trivial, s4⟩
  clear hw hc0 hn s4 x a b T n
  refine scriptC hg ha (ht w h) hl hs (by omega) (by omega) (by omega) fun w5 h5 => ?_
  obtain ⟨x, a, b, A, B, T, n', hw, hn', _, s5⟩ := h5
  have s5 : St noF w w5 (BoxA z (wC g (planT g) dp x a b ⟨none, 0, 0⟩ B.isSome) :: TxA x dp n' T :: DiskA dp T.D :: RowsA a A :: NowA b B :: [BoxA r (gcells g)]) := s5
  rw [deref_some']
  refine s5.L 0 rfl (p := some ⟨dp, 0, none⟩) rfl ?_
  have s6 : St noF w w5 (DiskA dp T.D :: BoxA z (wC g (planT g) dp x a b ⟨none, 0, 0⟩ B.isSome) :: [BoxA r (gcells g)]) := s5.sel [2, 0, 5] 6
  refine crashR (p := s2) (pl := l2) s6 hw.db (by omega) (Rd.noF h2) fun w7 s7 => ?_
  have e1 : crashD T.D l2 = (0, fallsD T.D l2) := by unfold crashD; rw [hw.live.up.off]; rfl
  rw [e1] at s7
  have hfd := falls_db hw.db l2
  have s7 : St noF w w7 (BoxA z (wC g (planT g) dp x a b ⟨none, 0, 0⟩ B.isSome) :: DiskA dp (fallsD T.D l2) :: [BoxA r (gcells g)]) := s7.sel [1, 0, 2] 3
  rw [deref_some']
  refine s7.L 0 rfl (p := some ⟨dp, 0, none⟩) rfl ?_
  refine upC (s7.sel [1, 0, 2] 3) hfd.db.ok fun w8 s8 => ?_
  have e2 : upD (fallsD T.D l2) = (0, onD (fallsD T.D l2)) := rfl
  rw [e2] at s8 ⊢
  refine br_f rfl ?_
  have hon := onD_db hfd.db
  have hgd : Good (onD (fallsD T.D l2)) g (3 + 240) (CA A) := by
    have h1 := (hw.live.good.falls hw.live.up.ok.D l2).same (E := onD (fallsD T.D l2)) rfl rfl
    rw [hw.eg] at h1
    exact h1
  have hcc : C0 (onD (fallsD T.D l2)) := ⟨rfl, rfl⟩
  have hwd : (onD (fallsD T.D l2)).wait = [] := rfl
  have hdb := hon.db
  have hlen : ((onD (fallsD T.D l2)).blocks.length : Int) = g.1 := by
    rw [show (onD (fallsD T.D l2)).blocks.length = T.D.blocks.length from hfd.len, hw.live.up.ok.len]; exact congrArg (·.1) hw.eg
  have s8 : St noF w w8 (BoxA z (wC g (planT g) dp x a b ⟨none, 0, 0⟩ B.isSome) :: DiskA dp (onD (fallsD T.D l2)) :: [BoxA r (gcells g)]) := s8.sel [1, 0, 2] 3
  generalize onD (fallsD T.D l2) = D at s8 hgd hcc hwd hdb hlen
  clear hon e2 s7 hfd e1 s6 s5
  refine loop_of (fun c W => ∃ (j : Nat) (D' : DM) (lb : List UInt8), c.2 = j ∧ j ≤ 3 ∧ C0 D' ∧ D'.wait = [] ∧ DB (550000 + 2100 * j) D' ∧ (D'.blocks.length : Int) = g.1 ∧ Good D' g (243 + j) (CA A) ∧ (j ≠ 0 → GoodE D' g (243 + j) (CA A) ∧ lb = D'.blocks.flatten) ∧ (j = 0 → c.1 = ⟨none, 0, 0⟩ ∧ lb = []) ∧ St noF w W (SlA 1 c.1 (lb.map ub) :: BoxA z (wC g (planT g) dp x a b ⟨none, 0, 0⟩ B.isSome) :: DiskA dp D' :: [BoxA r (gcells g)])) (fun c _ => 3 - c.2.toNat)
    ⟨0, D, [], rfl, by omega, hcc, hwd, hdb.le (by omega), hlen, hgd, (fun h => absurd rfl h), fun _ => ⟨rfl, rfl⟩, s8.nosl 1⟩ ?_
  clear s8 hgd hcc hwd hdb hlen D
  rintro ⟨q, i⟩ W2 ⟨j, D, lb, rfl, hj, hcc, hwd, hdb, hlen, hgd, hE, h0, s9⟩
  dsimp only at h0 s9 ⊢
  refine br_of (fun hlt => ?_) fun hge => ⟨rfl, s9.gro⟩
  have hlt : j < 3 := by have := of_decide_eq_true hlt; omega
  rw [deref_some']
  refine s9.L 1 rfl (p := some ⟨dp, 0, none⟩) rfl ?_
  obtain ⟨hop, hopg⟩ := live_open hgd hdb hcc.2 (by omega)
  have hoc := hcc.openT
  have hsame : j ≠ 0 → (openT D).2.blocks.drop 2 = D.blocks.drop 2 := fun hj => open_same (hE hj).1 hdb hcc hwd (by omega)
  rcases hop with ⟨⟨o1, o2⟩, o3, o4, o5⟩ | ⟨o1, _⟩
  rotate_left
  · exact absurd o1 hoc.on
  have s9' : St noF w W2 (DiskA dp D :: SlA 1 q (lb.map ub) :: BoxA z (wC g (planT g) dp x a b ⟨none, 0, 0⟩ B.isSome) :: [BoxA r (gcells g)]) := s9.sel [2, 0, 1, 3] 4
  refine openC s9' hdb (by omega) (fun h => absurd o1 h) fun _ y w10 s10 => ?_
  have hGE : GoodE (openT D).2 g (243 + j + 1) (CA A) := by
    have := o4.goodE rfl
    rw [o5] at this
    exact this
  refine jn_of (fun c W' => c = false ∧ St noF w W' (TxA y dp 0 (T0 D) :: DiskA dp (openT D).2 :: SlA 1 q (lb.map ub) :: BoxA z (wC g (planT g) dp x a b ⟨none, 0, 0⟩ B.isSome) :: [BoxA r (gcells g)])) ?_ ?_
  · refine br_f rfl ⟨trivial, br_f rfl ?_⟩
    refine heldC s10 o4.up.ok fun w11 s11 => br_f rfl ?_
    refine busyC s11 ⟨rfl, s11⟩
  rintro _ w11 ⟨rfl, s11⟩
  refine br_f rfl ?_
  have hwo := o3
  have hdbo := hopg.db
  have hleno : ((openT D).2.blocks.length : Int) = g.1 := by rw [hopg.len]; exact hlen
  have hgo := o4.good
  rw [o5] at hgo
  have hgo : Good (openT D).2 g (243 + j + 1) (CA A) := hgo
  generalize (openT D).2 = E at s11 hwo hdbo hleno hgo hGE hsame hoc
  clear s10 o1 o2 o3 o4 o5 s9'
  have s11 : St noF w w11 (SlA 1 q (lb.map ub) :: BoxA z (wC g (planT g) dp x a b ⟨none, 0, 0⟩ B.isSome) :: DiskA dp E :: [BoxA r (gcells g)]) := s11.sel [2, 3, 1, 4] 5
  rw [deref_some']
  refine s11.L 1 rfl (p := some ⟨dp, 0, none⟩) rfl ?_
  refine imageC (s11.sel [2, 0, 1, 3] 4) hdbo.ok fun im w12 s12 => ?_
  have s12 : St noF w w12 (SlA 1 im (E.blocks.flatten.map ub) :: SlA 1 q (lb.map ub) :: BoxA z (wC g (planT g) dp x a b ⟨none, 0, 0⟩ B.isSome) :: DiskA dp E :: [BoxA r (gcells g)]) := s12.sel [0, 2, 3, 1, 4] 5
  obtain ⟨fd1, fd2⟩ := flat_drop E.blocks hdbo.ok.len (by omega)
  refine jn_of (fun c W' => c = false ∧ St noF w W' (SlA 1 im (E.blocks.flatten.map ub) :: SlA 1 q (lb.map ub) :: BoxA z (wC g (planT g) dp x a b ⟨none, 0, 0⟩ B.isSome) :: DiskA dp E :: [BoxA r (gcells g)])) ?_ ?_
  · rw [drw_def]
    have s12 := s12.drew
    generalize w12.drew = w13 at s12
    refine s12.L 4 rfl (p := g.1) rfl ?_
    have hil := slA_len1 s12.sl
    rw [List.length_map, fd2] at hil
    rw [w64_of (n := g.1 * 256) ⟨by omega, by omega⟩]
    refine br_f ?_ ⟨trivial, ?_⟩
    · exact bne_eq_false_iff_eq.2 (by omega)
    by_cases hj0 : j = 0
    · obtain ⟨hq, _⟩ := h0 hj0
      rw [hq]
      exact br_f rfl ⟨rfl, by rw [hq] at s12; exact s12⟩
    · obtain ⟨_, hlb⟩ := hE hj0
      obtain ⟨fd3, fd4⟩ := flat_drop D.blocks hdb.ok.len (by omega)
      have hql := slA_len1 (s12.bring 1).sl
      rw [List.length_map, hlb, fd4] at hql
      have hqs : q.a.isNone = false := by
        have h6 := (s12.bring 1).sl
        rcases h6.row with ⟨_, h8, _⟩ | ⟨c, off, spare, h8, _⟩
        · omega
        · rw [h8]; rfl
      rw [hqs]
      refine br_t rfl ?_
      refine slc_from (o := 512) s12.sl.bs s12.sl.le (by rw [fd2]; omega) fun r1 hb1 _ _ _ _ => ?_
      refine slc_from (o := 512) (s12.bring 1).sl.bs (s12.bring 1).sl.le (by rw [hlb, fd4]; omega) fun r2 hb2 _ _ _ _ => ?_
      refine callF_of (C18 r1 r2 _ _ w13 hb1 hb2) ?_
      rintro _ _ ⟨rfl, rfl⟩
      refine ⟨?_, s12⟩
      rw [hlb, fd1, fd3, hsame hj0]
      simp
  rintro _ w13 ⟨rfl, s13⟩
  refine br_f rfl ?_
  refine jn_of (fun c W' => c = false ∧ St noF w W' (SlA 1 im (E.blocks.flatten.map ub) :: BoxA z (wC g (planT g) dp x a b ⟨none, 0, 0⟩ B.isSome) :: DiskA dp (onD (fallsD E [])) :: [BoxA r (gcells g)])) ?_ ?_
  · rw [deref_some']
    refine s13.L 2 rfl (p := some ⟨dp, 0, none⟩) rfl ?_
    have s13' : St noF w w13 (DiskA dp E :: SlA 1 im (E.blocks.flatten.map ub) :: BoxA z (wC g (planT g) dp x a b ⟨none, 0, 0⟩ B.isSome) :: [BoxA r (gcells g)]) := s13.sel [3, 0, 2, 4] 5
    refine crashR (p := ⟨none, 0, 0⟩) (pl := []) s13' hdbo (by omega) (Rd.nil _ _) fun w14 s14 => ?_
    have e1 : crashD E [] = (0, fallsD E []) := by unfold crashD; rw [hoc.2]; rfl
    rw [e1] at s14 ⊢
    refine br_f rfl ?_
    rw [deref_some']
    refine s14.L 2 rfl (p := some ⟨dp, 0, none⟩) rfl ?_
    refine upC s14 (falls_db hdbo []).db.ok fun w15 s15 => ?_
    have e2 : upD (fallsD E []) = (0, onD (fallsD E [])) := rfl
    rw [e2] at s15 ⊢
    exact ⟨rfl, s15.sel [1, 2, 0, 3] 4⟩
  rintro _ w14 ⟨rfl, s14⟩
  refine br_f rfl ?_
  obtain ⟨cb, cw⟩ := cycleD hwo
  have hdb2 := (onD_db (falls_db hdbo []).db).db
  rw [w64_succ (by omega)]
  refine ⟨⟨j + 1, onD (fallsD E []), E.blocks.flatten, rfl, by omega, ⟨rfl, rfl⟩, cw, hdb2.le (by omega), by rw [cb]; exact hleno, hgo.same cb (cw.trans hwo.symm), fun _ => ⟨hGE.same cb (cw.trans hwo.symm), by rw [cb]⟩, fun h => absurd h (by omega), s14⟩, by show 3 - (((j + 1 : Nat) : Int)).toNat < 3 - ((j : Int)).toNat; omega⟩
end Go.Proofs
