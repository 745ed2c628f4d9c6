import Derived.Test.YtlenkeefncbmcaaE7
set_option linter.unusedVariables false
set_option linter.unusedSimpArgs false
set_option linter.unusedSectionVars false
/-! The engine, part 8: one operation, all of them. -/
namespace Go.Eng
section
variable {P : Program} {e : Env} {a : Act} {w : World} {k : EV → Pr}

theorem ceqV_guard {d : TypeDesc} {u v : Value} {r : Prop × Bool} (h : ceqV d u v = some r) : (∀ xs ys, ¬ (u = .agg xs ∧ v = .agg ys)) ∧ ¬ (u = .nilIface ∧ v = .nilIface) := by
  refine ⟨fun xs ys => ?_, ?_⟩ <;> rintro ⟨rfl, rfl⟩ <;> cases d <;> simp [ceqV] at h

theorem ceqV_bin {d : TypeDesc} {t : TypeId} {u v : Value} {r : Prop × Bool} (neg : Bool) (h : ceqV d u v = some r) (h1 : r.1) :
    binOp (if neg then .neq else .eql) t u v = (Op.equal t u v >>= fun b => Pure.pure (.bool (if neg then !b else b))) := by
  unfold ceqV at h
  split at h <;> first
    | (simp at h; done)
    | (cases neg <;> rfl)
    | (simp only [Option.some.injEq] at h
       subst h
       rcases h1 with h1 | h1
       · cases u <;> first | exact (h1 : False).elim | (cases neg <;> rfl)
       · subst h1; cases neg <;> rfl)

theorem run_eqv {t : TypeId} {x y : Operand} {u v : Value} (neg : Bool)
    (h : ceq P t u v (fun b => k (.val (.bool (if neg then !b else b)))) w) :
    RT P (do eqGuard (if neg then .neq else .eql) t x y u v; binOp (if neg then .neq else .eql) t u v) w fun v w' => k (.val v) w' := by
  obtain ⟨d, hd, h2⟩ := opt_sound h
  obtain ⟨r, hr, h3, h4⟩ := opt_sound h2
  obtain ⟨g1, g2⟩ := ceqV_guard hr
  refine .bind ⟨(), w, ?_, ?_⟩
  · unfold eqGuard
    cases neg <;> simp only [Bool.false_eq_true, if_false, if_true]
    all_goals
      split
      · rfl
      · split
        · exact absurd ⟨rfl, rfl⟩ g2
        · exact absurd ⟨rfl, rfl⟩ (g1 _ _)
        · rfl
  · rw [ceqV_bin neg hr h3]
    exact .bind (run_ceq h fun b h => .pure h)

theorem numStr_guard {op : BinOp} {t : TypeId} {x y : Operand} {u v : Value} (h : numStr v u = true) : (eqGuard op t x y u v).run P w = .ok () w := by
  unfold numStr at h
  split at h
  · unfold eqGuard; cases op <;> rfl
  · unfold eqGuard; cases op <;> rfl
  · simp at h

theorem run_mrange {t : TypeId} {ke : TypeId × TypeId} {r : Option Nat} {k : Nat → Pr} {Q : Value → World → Prop} (ht : P.underlying t = some (.map ke.1 ke.2)) (h : mrange r k w)
    (hq : ∀ b w', k b w' → Q (.pointer (some ⟨b, 0, none⟩)) w') : RT P (Instr.range t (.map r)) w Q := by
  unfold Instr.range
  unfold mrange at h
  refine .bind (.underlying ht ?_)
  cases r with
  | none => exact .bind (.pure (.bind (.newObj (.pure (hq _ _ h)))))
  | some m =>
    obtain ⟨es, clock, hm, h⟩ := h
    refine .bind (.bind (.getObj hm (fun _ _ _ => by simp) ?_))
    refine RT.pure (RT.bind (RT.pure (RT.bind (RT.newObj (RT.pure (hq _ _ h))))))

theorem run_mentry {a : Addr} {k : MapEntry → Pr} {Q : Value → World → Prop} (h : mentry a k w) (hq : ∀ e w', k e w' → Q (.tuple #[e.key, e.val]) w') : RT P (Instr.entry (.pointer (some a))) w Q := by
  obtain ⟨h0, m, since, seen, stepped, es, clock, stamp, e, h1, h2, h3, h4, h5, h8⟩ := h
  obtain ⟨b, off, sp⟩ := a
  dsimp only at h0 h1
  subst h0
  unfold Instr.entry
  refine RT.bind (RT.getObj h1 (fun _ _ _ => by simp) ?_)
  dsimp only
  rw [h2]
  dsimp only
  refine RT.bind (RT.getObj h3 (fun _ _ _ => by simp) ?_)
  dsimp only
  subst h4
  simp only [bne_self_eq_false, Bool.false_eq_true, if_false, h5]
  exact .pure (hq _ _ h8)

theorem RT.chooseNext {n : Nat} {Q : Nat → World → Prop} (hn : 0 < n) (h : ∀ i w1, i < n → (w1 = w ∨ w1 = w.drew) → Q i w1) : RT P (Go.choose (.mapNext n)) w Q := by
  have hr := run_choose_drew P w (.mapNext n)
  by_cases hf : n ≤ 1
  · refine ⟨0, w, ?_, h 0 w hn (.inl rfl)⟩
    rw [hr]
    simp [Question.forced, hf]
  · refine ⟨w.tape w.drawn (.mapNext n) % n, w.drew, ?_, h _ _ (Nat.mod_lt _ hn) (.inr rfl)⟩
    rw [hr]
    simp [Question.forced, hf, Question.cut]

theorem run_mnext {a : Addr} {k0 : Pr} {k1 : MapEntry → Pr} {Q : Value → World → Prop} {t : TypeId} (h : mnext a k0 k1 w) (hq0 : ∀ w', k0 w' → Q (.tuple #[.bool false]) w') (hq1 : ∀ e w', k1 e w' → Q (.tuple #[.bool true, e.key, e.val]) w') :
    RT P (Instr.next (.pointer (some a)) false t) w Q := by
  obtain ⟨h0, h⟩ := h
  obtain ⟨b, off, sp⟩ := a
  dsimp only at h0 h
  subst h0
  unfold Instr.next
  rcases h with ⟨c, f, d, h1, h2⟩ | ⟨m, since, seen, last, es, clock, h1, h2, h3, h4⟩
  · exact .bind (.getObj h1 (fun _ _ _ => by simp) (.pure (hq0 _ h2)))
  · refine .bind (.getObj h1 (fun _ _ _ => by simp) ?_)
    dsimp only
    refine .bind (.getObj h2 (fun _ _ _ => by simp) ?_)
    dsimp only
    rw [if_neg (by rw [h3]; simp)]
    generalize hc : (if ((es.filter fun e => !seen.contains e.born).filter (·.born < since)).isEmpty = true then (#[none] : Array (Option MapEntry)) else #[]) ++ (((es.filter fun e => !seen.contains e.born).filter (·.born < since)) ++ ((es.filter fun e => !seen.contains e.born).filter (·.born ≥ since))).map some = cs
    have hpos : 0 < cs.size := by
      rw [← hc]
      split
      · simp only [Array.size_append, List.size_toArray, List.length_cons, List.length_nil]; omega
      · rename_i hne
        have : 0 < ((es.filter fun e => !seen.contains e.born).filter (·.born < since)).size := by
          rcases Nat.eq_zero_or_pos ((es.filter fun e => !seen.contains e.born).filter (·.born < since)).size with h | h
          · exact absurd (by simpa [Array.isEmpty] using h) hne
          · exact h
        simp only [Array.size_append, Array.size_map]
        omega
    refine RT.bind (RT.chooseNext hpos fun i w1 hi hw => ?_)
    obtain ⟨hend, hmore⟩ := h4 w1 hw
    rw [Array.getElem?_eq_getElem hi]
    have hmem : cs[i] ∈ cs := Array.getElem_mem hi
    generalize cs[i] = x at hmem ⊢
    rw [← hc, Array.mem_append] at hmem
    have h1' : w1.heap[b]? = some (.mapIter (some m) since seen last) := by rcases hw with rfl | rfl <;> exact h1
    cases x with
    | none =>
      refine RT.pure (hq0 _ (hend ?_))
      rcases hmem with hmem | hmem
      · split at hmem
        · rename_i hemp
          intro e he hb
          cases hs : seen.contains e.born with
          | true => rfl
          | false =>
            exfalso
            have h9 : e ∈ ((es.filter fun e => !seen.contains e.born).filter (·.born < since)) := by
              rw [Array.mem_filter, Array.mem_filter]
              exact ⟨⟨by simpa using he, by simpa using hs⟩, by simpa using hb⟩
            rw [Array.isEmpty_iff] at hemp
            rw [hemp] at h9
            simp at h9
        · simp at hmem
      · simp at hmem
    | some e =>
      have he : e ∈ es.toList ∧ seen.contains e.born = false := by
        rcases hmem with hmem | hmem
        · split at hmem <;> simp at hmem
        · rw [Array.mem_map] at hmem
          obtain ⟨e', h5, h6⟩ := hmem
          simp only [Option.some.injEq] at h6
          subst h6
          simp only [Array.mem_append, Array.mem_filter] at h5
          have h7 : e' ∈ es ∧ (!seen.contains e'.born) = true := by rcases h5 with h5 | h5 <;> exact h5.1
          exact ⟨by simpa using h7.1, by simpa using h7.2⟩
      refine RT.bind (RT.setObj h1' (fun _ _ _ => by simp) (RT.pure (hq1 _ _ (hmore e he.1 he.2))))

theorem cop_rt {o : Oper} (he : Ag e a) (h : cop P o e k w) (hc : ∀ c, o.op ≠ .call c) : RT P (execOp a.eval o) w (NX k) := by
  obtain ⟨dst, op, ty, pos, after, guard⟩ := o
  cases op <;> simp only [cop] at h <;> try exact h.elim
  case move x => exact .pure (ndEvK he h)
  case assign x => exact .pure (ndEvK he h)
  case pick c x y => exact run_pick he h
  case alloc t =>
    obtain ⟨z, hz, h⟩ := opt_sound h
    refine RT.value' ?_
    exact .bind (zeroOf_sound hz (.bind (.newVar h fun _ _ h => .pure h)))
  case box t x => exact RT.value' (.bind (.newVar (ndEv he h) fun _ _ h => .pure h))
  case build t parts =>
    obtain ⟨z, hz, h⟩ := opt_sound h
    have h1 := ndParts_sound he h
    obtain ⟨d, hd, h2⟩ := opt_sound h1
    clear h h1
    refine RT.value' ?_
    unfold Instr.build
    refine .bind (zeroOf_sound hz (.bind (.underlying hd ?_)))
    have hp : (parts.map fun (i, x) => (i, a.eval x)).toList = parts.toList.map fun (i, x) => (i, a.eval x) := by simp
    cases d with
    | struct fs =>
      obtain ⟨pl, hpl, h2⟩ := opt_sound h2
      obtain ⟨cs, hcs, h2⟩ := opt_sound h2
      have hf := fillL_sound hcs
      simp only [Array.toArray_toList] at hf
      dsimp only
      rw [show fs = fs.toList.toArray by simp, List.mapM_toArray]
      refine .bind ?_
      rw [map_eq_pure_bind]
      refine .bind (places_sound hpl (.pure ?_))
      rw [hp]
      have hpl' : (fun j : Nat => pl.toArray[j]?) = (fun j : Nat => pl[j]?) := by funext j; simp
      rw [hpl', hf]
      exact .pure h2
    | array ln el =>
      obtain ⟨i, hi, h2⟩ := opt_sound h2
      obtain ⟨cs, hcs, h2⟩ := opt_sound h2
      have hf := fillL_sound hcs
      simp only [Array.toArray_toList] at hf
      refine .bind (.sizeOf hi ?_)
      rw [hp, hf]
      exact .pure h2
    | _ => exact h2.elim
  case buildSlice t len parts =>
    have h1 := ndParts_sound he h
    obtain ⟨el, hel, h2⟩ := opt_sound h1
    obtain ⟨i, hi, h2⟩ := opt_sound h2
    obtain ⟨z, hz, h2⟩ := opt_sound h2
    obtain ⟨⟨hzs, hs0, hlen⟩, h2⟩ := cnd_sound h2
    obtain ⟨cs, hcs, h2⟩ := opt_sound h2
    clear h h1
    refine RT.value' ?_
    unfold Instr.buildSlice
    refine .bind (.underlying (sliceElem_sound hel) (.bind (.sizeOf hi ?_)))
    rw [if_neg (Nat.not_lt.2 hlen)]
    have hp : (parts.map fun (i, x) => (i, a.eval x)).toList = parts.toList.map fun (i, x) => (i, a.eval x) := by simp
    have hf := fillL_sound hcs
    have hzc := zc_eq z.cells.toList len i.size (by simpa using hzs)
    simp only [Array.toArray_toList] at hzc
    by_cases h0 : len * i.size = 0
    · rw [if_pos h0]
      have hl0 : len = 0 := (Nat.mul_eq_zero.1 h0).resolve_right hs0
      refine .bind (.pure ?_)
      dsimp only
      have e0 : ∀ g : Nat → Value, Array.map g (Array.range 0) = [].toArray := fun _ => by simp
      rw [h0, e0, hp]
      have : zc z.cells.toList len = [] := by simp [hl0, zc]
      rw [this] at hf
      rw [hf]
      exact .bind (.bind (.newObj (.pure (.pure h2))))
    · rw [if_neg h0]
      refine .bind (.zeroValue hi hz (.bind (.pure ?_)))
      dsimp only
      rw [hp, hzs, hzc, hf]
      exact .bind (.bind (.newObj (.pure (.pure h2))))
  case load t x =>
    have h1 := ndEv he h
    obtain ⟨ad, hv, h2⟩ := asPtr_sound h1
    refine RT.value' ?_
    unfold Instr.loadAt
    rw [hv]
    exact .bind (.pure (.loadVar h2 fun _ h => h))
  case store t x y =>
    have h1 := ndEv he h
    obtain ⟨ad, hv, h2⟩ := asPtr_sound h1
    have h3 := ndEv he h2
    refine RT.skip ?_
    unfold Instr.storeAt
    rw [hv]
    exact .bind (.pure (.storeVar h3 fun _ h => h))
  case nilCheck x =>
    have h1 := ndEv he h
    clear h
    unfold execOp
    dsimp only
    generalize a.eval x = v at h1 ⊢
    cases v with
    | pointer p =>
      obtain ⟨ad, rfl, h2⟩ := h1
      exact .pure ⟨_, Good.val _, h2⟩
    | func fn f1 f2 =>
      obtain ⟨h2, h3⟩ := h1
      cases fn <;> first | exact (h2 : False).elim | exact .pure ⟨_, Good.val _, h3⟩
    | int _ _ => exact h1.elim
    | bool _ => exact h1.elim
    | string _ => exact h1.elim
    | nilIface => exact h1.elim
    | slice _ _ _ => exact h1.elim
    | map _ => exact h1.elim
    | float _ _ => exact (h1.1 : False).elim
    | complex _ _ _ => exact (h1.1 : False).elim
    | chan _ => exact (h1.1 : False).elim
    | nilFunc => exact (h1.1 : False).elim
    | iface _ _ => exact (h1.1 : False).elim
    | agg _ => exact (h1.1 : False).elim
    | tuple _ => exact (h1.1 : False).elim
  case binOp op t x y ty2 =>
    have h1 := ndEv he (ndEv he h)
    clear h
    refine RT.value' ?_
    generalize a.eval x = u at h1 ⊢
    generalize a.eval y = v at h1 ⊢
    rcases tf_sound h1 with ⟨hn, h1⟩ | ⟨hn, h1⟩
    · refine .bind ⟨(), w, ?_, ?_⟩
      · exact numStr_guard hn
      · obtain ⟨v, hv, h2⟩ := run_bin (P := P) (t := t) h1
        exact ⟨v, w, hv, h2⟩
    · cases op <;> first
        | exact h1.elim
        | exact run_eqv false h1
        | exact run_eqv true h1
  case unOp op t x =>
    obtain ⟨v, u, hv, hr, y, hy, h2⟩ := run_cun h
    refine RT.value ?_
    rw [he.eval (x := x) hv]
    exact ⟨_, w, hr, y, hy, h2⟩
  case convert s d x => exact RT.value' (run_cconv (ndEv he h))
  case makeFunc fn first caps =>
    have h1 := ndL_sound he h
    have h2 := ndL_sound he h1
    have e1 : (first.toList.map a.eval).toArray = first.map a.eval := by rw [← Array.toList_map, Array.toArray_toList]
    have e2 : (caps.toList.map a.eval).toArray = caps.map a.eval := by rw [← Array.toList_map, Array.toArray_toList]
    rw [e1, e2] at h2
    exact RT.value' (.pure h2)
  case makeMap t r =>
    cases r with
    | none => exact RT.value' (.bind (.newObj (.pure h)))
    | some _ => exact h.elim
  case makeSlice t l c =>
    obtain ⟨el, hel, h⟩ := opt_sound h
    obtain ⟨i, hi, h⟩ := opt_sound h
    obtain ⟨z, hz, h⟩ := opt_sound h
    obtain ⟨⟨hzs, hs0⟩, h⟩ := cnd_sound h
    obtain ⟨k1, ln, hl, h⟩ := asIntE_sound (ndEv he h)
    obtain ⟨k2, cn, hc2, h⟩ := asIntE_sound (ndEv he h)
    refine RT.value' ?_
    rw [hl, hc2]
    exact run_mkS (sliceElem_sound hel) hi hz hzs hs0 h fun _ _ h => h
  case slice t x lo hi mx =>
    have h1 := ndEv he h
    obtain ⟨l, k1, hl, h2⟩ := ndO_sound he h1
    obtain ⟨hh, k2, hhi, h3⟩ := ndO_sound he h2
    obtain ⟨m, k3, hm, h4⟩ := ndO_sound he h3
    clear h h1 h2 h3
    refine RT.value' ?_
    rw [hl, hhi, hm]
    generalize a.eval x = v at h4 ⊢
    split at h4
    · rename_i a0 ln c
      obtain ⟨el, hel, h⟩ := opt_sound h4
      obtain ⟨i, hi, h⟩ := opt_sound h
      exact run_sliceAt (s := ⟨a0, ln, c⟩) (sliceElem_sound hel) hi h fun _ h => h
    · obtain ⟨d, hd, h9⟩ := opt_sound h4
      clear h4
      split at h9
      · exact run_sliceStr hd h9 fun _ h => h
      · exact h9.elim
    · exact h4.elim
  case fieldAddr s x f =>
    obtain ⟨ad, hv, h2⟩ := asPtr_sound (ndEv he h)
    obtain ⟨fl, hfl, h2⟩ := opt_sound h2
    obtain ⟨i, hi, h2⟩ := opt_sound h2
    obtain ⟨hs, h2⟩ := cnd_sound h2
    obtain ⟨fs, hfs, hf⟩ := fieldOf_sound hfl
    refine RT.value' ?_
    unfold Instr.fieldAt
    refine .bind (.underlying hfs ?_)
    simp only [hf, hv]
    refine .bind (.pure (.bind ?_))
    unfold fieldPlace
    refine .bind (.sizeOf hi ?_)
    rw [if_neg hs]
    exact .pure (.pure h2)
  case field s x f =>
    obtain ⟨cs, hv, h2⟩ := asAggE_sound (ndEv he h)
    obtain ⟨fl, hfl, h2⟩ := opt_sound h2
    obtain ⟨i, hi, h2⟩ := opt_sound h2
    obtain ⟨d, hd, h2⟩ := opt_sound h2
    obtain ⟨fs, hfs, hf⟩ := fieldOf_sound hfl
    refine RT.value' ?_
    unfold Instr.field
    refine .bind (.underlying hfs ?_)
    simp only [hf, hv]
    refine .bind (.pure ?_)
    unfold Go.part
    refine .bind (.of_run (run_isAgg hd) ?_)
    rcases tf_sound h2 with ⟨hag, h2⟩ | ⟨hag, h2⟩
    · rw [hag, if_pos rfl]
      exact .bind (.sizeOf hi (.pure h2))
    · rw [hag, if_neg Bool.false_ne_true]
      obtain ⟨c, hc2, h2⟩ := opt_sound h2
      simp only [hc2]
      exact .pure h2
  case indexAddr t x ix =>
    have h1 := ndEv he h
    obtain ⟨k1, n, hn, h2⟩ := asIntE_sound (ndEv he h1)
    clear h h1
    refine RT.value' ?_
    unfold Instr.indexAt
    rw [hn]
    refine .bind (.pure ?_)
    dsimp only
    generalize a.eval x = v at h2 ⊢
    split at h2
    · rename_i a0 ln c
      obtain ⟨el, hel, h⟩ := opt_sound h2
      obtain ⟨i, hi, h⟩ := opt_sound h
      obtain ⟨hb, ad, rfl, h5⟩ := h
      refine .bind (.underlying (sliceElem_sound hel) (.bind (.pure (.bind (.underlying (sliceElem_sound hel) ?_)))))
      dsimp only
      rw [if_pos hb]
      exact .bind (.sizeOf hi (.pure h5))
    · obtain ⟨d, hd, h9⟩ := opt_sound h2
      clear h2
      split at h9
      · obtain ⟨i, hi, h⟩ := opt_sound h9
        obtain ⟨hb, ad, rfl, h5⟩ := h
        refine .bind (.underlying hd (.bind (.pure (.bind (.pure (.bind (.underlying hd ?_)))))))
        dsimp only
        rw [if_pos hb]
        exact .bind (.sizeOf hi (.pure h5))
      · exact h9.elim
    · exact h2.elim
  case index t x ix =>
    have h1 := ndEv he h
    obtain ⟨k1, n, hn, h2⟩ := asIntE_sound (ndEv he h1)
    clear h h1
    refine RT.value' ?_
    unfold Instr.index
    rw [hn]
    refine .bind (.pure ?_)
    dsimp only
    generalize a.eval x = v at h2 ⊢
    split at h2
    · rename_i s
      obtain ⟨d, hd, h9⟩ := opt_sound h2
      clear h2
      split at h9
      · obtain ⟨hb, h9⟩ := h9
        refine .bind (.underlying hd ?_)
        have hlt : n.toNat < s.size := by omega
        simp only [hb.1, if_true]
        rw [getElem?_pos s n.toNat hlt] at h9 ⊢
        exact .pure h9
      · exact h9.elim
    · exact h2.elim
  case lookup t x ix ok =>
    have h1 := ndEv he (ndEv he h)
    obtain ⟨r, hr, h2⟩ := asMap_sound h1
    obtain ⟨ke, hke, h2⟩ := opt_sound h2
    obtain ⟨kd, hkd, h2⟩ := opt_sound h2
    rcases tf_sound h2 with ⟨hs, h2⟩ | ⟨_, h2⟩
    · obtain ⟨l, hl, h2⟩ := opt_sound h2
      obtain ⟨sh, hsh, h2⟩ := opt_sound h2
      obtain ⟨z, hz, h2⟩ := opt_sound h2
      refine RT.value' ?_
      rw [hr]
      refine run_lookup (mapElem_sound hke) hkd hs hz h2 fun p b h => ?_
      rcases tf_sound h with ⟨hok, h⟩ | ⟨hok, h⟩ <;> simpa [hok] using h
    · exact h2.elim
  case mapUpdate t m ky x =>
    have h1 := ndEv he (ndEv he (ndEv he h))
    obtain ⟨r, hr, h2⟩ := asMap_sound h1
    obtain ⟨ke, hke, h2⟩ := opt_sound h2
    obtain ⟨kd, hkd, h2⟩ := opt_sound h2
    rcases tf_sound h2 with ⟨hs, h2⟩ | ⟨_, h2⟩
    · refine RT.skip ?_
      rw [hr]
      exact run_mapPut (mapElem_sound hke) hkd hs h2 fun _ h => h
    · exact h2.elim
  case extract t ix =>
    refine RT.value ?_
    unfold Instr.extract
    cases hx : Env.ev e t with
    | nx0 =>
      rw [hx] at h
      have hv := he.eval (x := t) (v := .tuple #[.bool false]) (by rw [hx]; rfl)
      rw [hv]
      match ix, h with
      | 0, h => exact .pure ⟨_, fun u hu => by simpa [EV.v?] using hu.symm, h⟩
      | _ + 1, h => exact h.elim
    | nx1 k1 v1 =>
      rw [hx] at h
      have hv := he.eval (x := t) (v := .tuple #[.bool true, k1, v1]) (by rw [hx]; rfl)
      rw [hv]
      match ix, h with
      | 0, h => exact .pure ⟨_, fun u hu => by simpa [EV.v?] using hu.symm, h⟩
      | 1, h => exact .pure ⟨_, fun u hu => by simpa [EV.v?] using hu.symm, h⟩
      | 2, h => exact .pure ⟨_, fun u hu => by simpa [EV.v?] using hu.symm, h⟩
      | _ + 3, h => exact h.elim
    | ent k1 v1 =>
      rw [hx] at h
      have hv := he.eval (x := t) (v := .tuple #[k1, v1]) (by rw [hx]; rfl)
      rw [hv]
      match ix, h with
      | 0, h =>
        obtain ⟨l, _, h⟩ := opt_sound (show shOne P _ _ w from h)
        obtain ⟨s, _, h⟩ := opt_sound h
        obtain ⟨p, hp, h⟩ := h
        exact .pure ⟨_, fun u hu => by simp only [EV.v?, Option.some.injEq] at hu; rw [← hu]; exact hp.symm, h⟩
      | 1, h =>
        obtain ⟨l, _, h⟩ := opt_sound (show shOne P _ _ w from h)
        obtain ⟨s, _, h⟩ := opt_sound h
        obtain ⟨p, hp, h⟩ := h
        exact .pure ⟨_, fun u hu => by simp only [EV.v?, Option.some.injEq] at hu; rw [← hu]; exact hp.symm, h⟩
      | _ + 2, h => exact h.elim
    | no => rw [hx] at h; exact h.elim
    | lit b => rw [hx] at h; exact h.elim
    | val v =>
      rw [hx] at h
      have hv := he.eval (x := t) (v := v) (by rw [hx]; rfl)
      rw [hv]
      cases v <;> first | exact h.elim | skip
      obtain ⟨c, hc2, h1⟩ := opt_sound (show opt _ _ w from h)
      simp only [hc2]
      exact .pure ⟨_, Good.val _, h1⟩
  case range t x =>
    obtain ⟨r, hr, h2⟩ := asMap_sound (ndEv he h)
    obtain ⟨ke, hke, h2⟩ := opt_sound h2
    refine RT.value' ?_
    rw [hr]
    exact run_mrange (mapElem_sound hke) h2 fun _ _ h => h
  case next it str =>
    rcases tf_sound h with ⟨_, h⟩ | ⟨hs, h⟩
    · exact h.elim
    subst hs
    obtain ⟨ad, hv, h2⟩ := asPtr_sound (ndEv he h)
    refine RT.value ?_
    rw [hv]
    exact run_mnext h2 (fun _ h => ⟨_, fun u hu => by simpa [EV.v?] using hu.symm, h⟩) (fun _ _ h => ⟨_, fun u hu => by simpa [EV.v?] using hu.symm, h⟩)
  case entry it =>
    obtain ⟨ad, hv, h2⟩ := asPtr_sound (ndEv he h)
    refine RT.value ?_
    rw [hv]
    exact run_mentry h2 fun _ _ h => ⟨_, fun u hu => by simpa [EV.v?] using hu.symm, h⟩
  case call c => exact absurd rfl (hc c)

end
end Go.Eng
