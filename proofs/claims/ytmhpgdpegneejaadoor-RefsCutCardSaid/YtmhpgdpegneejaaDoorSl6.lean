import Derived.Test.YtmhpgdpegneejaaDoorSl5
set_option linter.unusedVariables false
set_option linter.unusedSimpArgs false
namespace Go.Proofs.Slx
open Go

/-! ### 19. Ranges over maps -/
theorem run_choose (P : Program) {n : Nat} (hn : 0 < n) (w : World) : ∃ i w', i < n ∧ (choose (.mapNext n)).run P w = .ok i w' ∧ w'.heap = w.heap ∧ io w' = io w := by
  by_cases hf : n ≤ 1
  · exact ⟨0, w, by omega, by simp [choose, Sem.run, Question.forced, hf], rfl, rfl⟩
  · exact ⟨_, w.drew, Nat.mod_lt _ (by omega), by
      simp only [choose, Sem.run, Question.forced, decide_eq_true_eq, hf, if_false, Question.cut]
      rfl, rfl, rfl⟩
def leftE (es : List MapEntry) (seen : Array Nat) : List MapEntry := es.filter fun e => !seen.contains e.born
theorem run_next {P : Program} {w : World} {it m ck : Nat} {es : Array MapEntry} {seen : Array Nat} (ty : TypeId) (hi : w.heap[it]? = some (.mapIter (some m) ck seen ck)) (hm : w.heap[m]? = some (.map es ck)) (hb : ∀ e ∈ es.toList, e.born < ck) :
    (leftE es.toList seen = [] ∧ ∃ w', (Instr.next (.pointer (some ⟨it, 0, none⟩)) false ty).run P w = .ok (.tuple #[.bool false]) w' ∧ w'.heap = w.heap ∧ io w' = io w) ∨
    (∃ e ∈ leftE es.toList seen, ∃ w', (Instr.next (.pointer (some ⟨it, 0, none⟩)) false ty).run P w = .ok (.tuple #[.bool true, e.key, e.val]) w' ∧ w'.heap = w.heap.setIfInBounds it (.mapIter (some m) ck (seen.push e.born) ck) ∧ io w' = io w) := by
  have g1 : (getObj it).run P w = .ok (.mapIter (some m) ck seen ck) w := by simp [getObj, Sem.run, hi]
  have g2 : (getObj m).run P w = .ok (.map es ck) w := by simp [getObj, Sem.run, hm]
  have hall : (!seen.isEmpty && !es.isEmpty && es.all (·.born ≥ ck)) = false := by
    by_cases he : es.isEmpty = true
    · simp [he]
    · have : es.all (·.born ≥ ck) = false := by
        rw [Array.all_eq_false]
        have h0 : 0 < es.size := by
          rcases Nat.eq_zero_or_pos es.size with h | h
          · exact absurd (by simpa [Array.isEmpty] using h) he
          · exact h
        refine ⟨0, h0, ?_⟩
        have := hb es[0] (by simp)
        simp; omega
      simp [this]
  have hold : (es.filter fun e => !seen.contains e.born).filter (·.born < ck) = es.filter fun e => !seen.contains e.born := by
    rw [Array.filter_eq_self]
    intro e he
    have := hb e (by simpa using (Array.mem_filter.1 he).1)
    simpa using this
  have hnew : (es.filter fun e => !seen.contains e.born).filter (·.born ≥ ck) = #[] := by
    rw [Array.filter_eq_empty_iff]
    intro e he
    have := hb e (by simpa using (Array.mem_filter.1 he).1)
    simp; omega
  have hle : (es.filter fun e => !seen.contains e.born).toList = leftE es.toList seen := by simp [leftE]
  generalize hL : (es.filter fun e => !seen.contains e.born) = Lf at *
  by_cases h0 : Lf = #[]
  · refine .inl ⟨by rw [← hle, h0], w, ?_, rfl, rfl⟩
    subst h0
    simp only [Instr.next, Sem.run_bind, g1, Result.andThen_ok, g2, hall, Bool.false_eq_true, if_false, hL, hold, hnew]
    simp [choose, Sem.run, Question.forced]
  · have hsz : 0 < Lf.size := by
      rcases Nat.eq_zero_or_pos Lf.size with h | h
      · exact absurd (Array.eq_empty_of_size_eq_zero h) h0
      · exact h
    obtain ⟨i, w', hlt, hr, hh, hio⟩ := run_choose P hsz w
    have hemp : Lf.isEmpty = false := by simp [Array.isEmpty]; omega
    refine .inr ⟨Lf[i], by rw [← hle]; simp, { w' with heap := w'.heap.setIfInBounds it (.mapIter (some m) ck (seen.push Lf[i].born) ck) }, ?_, by rw [← hh], hio⟩
    have hit : it < w'.heap.size := by
      rw [hh]
      exact (Array.getElem?_eq_some_iff.1 hi).1
    have hs : ∀ o, (setObj it o).run P w' = .ok () { w' with heap := w'.heap.setIfInBounds it o } := fun o => by
      simp [setObj, Sem.run, show w'.heap[it]? = some (.mapIter (some m) ck seen ck) by rw [hh]; exact hi]
    simp only [Instr.next, Sem.run_bind, g1, Result.andThen_ok, g2, hall, Bool.false_eq_true, if_false, hL, hold, hnew, hemp, Array.append_empty, Array.empty_append, Array.size_map, hr, Array.getElem?_map,
      Array.getElem?_eq_getElem hlt, Option.map_some, hs]
    rfl

/-! the entries not yet seen -/
section
variable {κ : Type} {enc : κ → Value}
def leftK (es : List MapEntry) (seen : Array Nat) (kvs : List (κ × Value)) : List (κ × Value) := ((es.zip kvs).filter fun p => !seen.contains p.1.born).map (·.2)
theorem leftK_zero : ∀ (es : List MapEntry) (kvs : List (κ × Value)), es.length = kvs.length → leftK es #[] kvs = kvs
  | [], [], _ => rfl
  | e :: es, k :: kvs, h => by
    have := leftK_zero es kvs (by simpa using h)
    simp only [leftK] at this ⊢
    simp at this ⊢
    exact this
theorem leftK_nil : ∀ (es : List MapEntry) (seen : Array Nat) (kvs : List (κ × Value)), es.length = kvs.length → (leftE es seen = [] ↔ leftK es seen kvs = [])
  | [], seen, [], _ => by simp [leftE, leftK]
  | e :: es, seen, k :: kvs, h => by
    have := leftK_nil es seen kvs (by simpa using h)
    simp only [leftE, leftK, List.zip_cons_cons, List.filter_cons] at this ⊢
    by_cases hs : (!seen.contains e.born) = true
    · rw [if_pos hs, if_pos hs]; simp
    · rw [if_neg hs, if_neg hs]; exact this
theorem leftK_away : ∀ (es : List MapEntry) (seen : Array Nat) (kvs : List (κ × Value)) (n : Nat), (∀ e ∈ es, e.born ≠ n) → leftK es (seen.push n) kvs = leftK es seen kvs
  | [], _, _, _, _ => by simp [leftK]
  | e :: es, _, [], _, _ => by simp [leftK]
  | e :: es, seen, k :: kvs, n, h => by
    have := leftK_away es seen kvs n (fun e he => h e (List.mem_cons_of_mem _ he))
    have hb : e.born ≠ n := h e List.mem_cons_self
    simp only [leftK, List.zip_cons_cons, List.filter_cons] at this ⊢
    have e1 : (seen.push n).contains e.born = seen.contains e.born := by
      simp [Array.contains_push, hb]
    rw [e1]
    split <;> simp_all
/-- One more is seen. -/
theorem leftK_step : ∀ (es : List MapEntry) (seen : Array Nat) (kvs : List (κ × Value)) (e : MapEntry), es.length = kvs.length → es.Pairwise (fun a b => a.born < b.born) → (es.map fun e => (e.key, e.val)) = (kvs.map fun p => (enc p.1, p.2)) → e ∈ leftE es seen →
    ∃ l1 k v l2, leftK es seen kvs = l1 ++ (k, v) :: l2 ∧ leftK es (seen.push e.born) kvs = l1 ++ l2 ∧ e.key = enc k ∧ e.val = v ∧ e ∈ es
  | [], _, _, _, _, _, _, h => by simp [leftE] at h
  | e0 :: es, seen, k0 :: kvs, e, hl, hp, he, h => by
    simp only [List.map_cons, List.cons.injEq, Prod.mk.injEq] at he
    obtain ⟨h1, h2⟩ := List.pairwise_cons.1 hp
    simp only [leftE, List.filter_cons] at h
    by_cases hs : (!seen.contains e0.born) = true
    · simp only [hs, if_true, List.mem_cons] at h
      have he' : e = e0 ∨ (e ≠ e0 ∧ e ∈ leftE es seen) := by
        rcases h with h | h
        · exact .inl h
        · by_cases hee : e = e0
          · exact .inl hee
          · exact .inr ⟨hee, h⟩
      rcases he' with rfl | ⟨hne, hm⟩
      · refine ⟨[], k0.1, k0.2, leftK es seen kvs, ?_, ?_, he.1.1, he.1.2, List.mem_cons_self⟩
        · simp only [leftK, List.zip_cons_cons, List.filter_cons]
          rw [if_pos hs]
          rfl
        · have := leftK_away es seen kvs e.born (fun x hx => Nat.ne_of_gt (h1 x hx))
          simp only [leftK, List.zip_cons_cons, List.filter_cons] at this ⊢
          have e1 : (seen.push e.born).contains e.born = true := by simp [Array.contains_push]
          rw [e1]
          simpa using this
      · obtain ⟨l1, k, v, l2, a, b, c, d, m⟩ := leftK_step es seen kvs e (by simpa using hl) h2 he.2 hm
        refine ⟨k0 :: l1, k, v, l2, ?_, ?_, c, d, List.mem_cons_of_mem _ m⟩
        · simp only [leftK, List.zip_cons_cons, List.filter_cons, hs, if_true, List.map_cons] at a ⊢
          rw [a]; rfl
        · have e1 : (!(seen.push e.born).contains e0.born) = true := by
            have := h1 e m
            simp [Array.contains_push]
            exact ⟨by simpa using hs, by omega⟩
          simp only [leftK, List.zip_cons_cons, List.filter_cons, e1, if_true, List.map_cons] at b ⊢
          rw [b]; rfl
    · simp only [hs] at h
      obtain ⟨l1, k, v, l2, a, b, c, d, m⟩ := leftK_step es seen kvs e (by simpa using hl) h2 he.2 (by simpa [leftE] using h)
      refine ⟨l1, k, v, l2, ?_, ?_, c, d, List.mem_cons_of_mem _ m⟩
      · simp only [leftK, List.zip_cons_cons, List.filter_cons, hs] at a ⊢
        simpa using a
      · have e1 : (!(seen.push e.born).contains e0.born) = false := by
          simp only [Bool.not_eq_true, Bool.not_eq_false'] at hs ⊢
          rw [Array.contains_eq_mem, decide_eq_true_eq] at hs
          simp [hs]
        simp only [leftK, List.zip_cons_cons, List.filter_cons, e1] at b ⊢
        simpa using b
theorem find_born : ∀ (l : List MapEntry) (e : MapEntry), l.Pairwise (fun a b => a.born < b.born) → e ∈ l → l.find? (·.born == e.born) = some e
  | x :: l, e, hp, he => by
    obtain ⟨h1, h2⟩ := List.pairwise_cons.1 hp
    rcases List.mem_cons.1 he with rfl | h
    · simp
    · have := h1 e h
      have hn : (x.born == e.born) = false := by simp; omega
      simp only [List.find?_cons, hn]
      exact find_born l e h2 h

/-- A map that is gone through: what is left, and what stands at hand. -/
def iterR (enc : κ → Value) (m it : Nat) (kvs left : List (κ × Value)) (cur : Option (κ × Value)) : Hp := fun h =>
  ∃ es ck seen, h m = some (.map es ck) ∧ h it = some (.mapIter (some m) ck seen ck) ∧ m ≠ it ∧ MapIs enc es.toList ck kvs ∧ left = leftK es.toList seen kvs ∧
    ∀ c, cur = some c → ∃ e ∈ es.toList, seen.back? = some e.born ∧ e.key = enc c.1 ∧ e.val = c.2
theorem iterR_map {m it : Nat} {kvs left : List (κ × Value)} {cur : Option (κ × Value)} : ∀ h, iterR enc m it kvs left cur h → mapR enc m kvs h :=
  fun _ ⟨es, ck, _, a, _, _, b, _⟩ => ⟨es, ck, a, b⟩
end
section
variable {κ : Type} {enc : κ → Value} {c : Place} {ds : List Deferred} {l : Env} {K : Env → World → Prop} {L : List Hp} {w : World} {pos : String} {af : Array Edge} {g : Option (Nat × Bool)} {x y : Operand} {d : Nat} {ty : TypeId}
theorem ef_range {t kt et : TypeId} {m : Nat} {kvs : List (κ × Value)} (ht : c.P.underlying t = some (.map kt et)) (n : Nat) (hx : ev l x = some (.map (some m))) (h : Sat w L) (hL : L[n]? = some (mapR enc m kvs)) (hd : Nat.blt d c.n = true)
    (k : ∀ it w', Sat w' (L.set n (iterR enc m it kvs kvs none)) → K ((d, .pointer (some ⟨it, 0, none⟩)) :: l) w') : OpE c ds ⟨some d, .range t x, ty, pos, af, g⟩ l w K := by
  obtain ⟨gp, hsub, ⟨es, ck, hb, hm⟩, upd⟩ := h.upd n hL
  have hmw : w.heap[m]? = some (.map es ck) := hsub _ _ hb
  have hlt : m < w.heap.size := (Array.getElem?_eq_some_iff.1 hmw).1
  refine OpE.value (v := .pointer (some ⟨w.heap.size, 0, none⟩)) (w' := { w with heap := w.heap.push (.mapIter (some m) ck #[] ck) }) rfl hd (fun ρ hρ => ?_) (k w.heap.size _ ?_)
  · rw [Oper.semAt_eq _ _ _ (by intro c; simp)]
    have g2 : (getObj m).run c.P w = .ok (.map es ck) w := by simp [getObj, Sem.run, hmw]
    simp [execOp, Instr.range, hρ _ _ hx, und_run ht, g2, newObj, Sem.run]
  · refine upd _ (fun i => if i = w.heap.size then some (.mapIter (some m) ck #[] ck) else gp i) _ ⟨es, ck, #[], (by have h9 : m ≠ w.heap.size := Nat.ne_of_lt hlt; simpa [h9] using hb), by simp, by omega, hm, ?_, by simp⟩ (fun i o ho => ?_) (fun i => ?_) (fun i o _ ho => ?_)
    · exact (leftK_zero _ _ (by have := congrArg List.length hm.ent; simpa using this)).symm
    · by_cases hi : i = w.heap.size
      · subst hi; simp at ho; subst ho; simp [hof]
      · simp only [hi, if_false] at ho
        have := hsub i o ho
        have h1 : i < w.heap.size := (Array.getElem?_eq_some_iff.1 this).1
        simp only [hof]
        rw [Array.getElem?_push_lt h1]
        simpa [hof, Array.getElem?_eq_getElem h1] using this
    · by_cases hi : i = w.heap.size
      · subst hi; exact .inr (.inr (by simp))
      · simp only [hi, if_false]
        cases hg : gp i <;> simp
    · have h1 : i < w.heap.size := (Array.getElem?_eq_some_iff.1 ho).1
      simp only []
      rw [Array.getElem?_push_lt h1]
      simpa [Array.getElem?_eq_getElem h1] using ho
theorem ef_next {m it : Nat} {kvs left : List (κ × Value)} {cur : Option (κ × Value)} (n : Nat) (hx : ev l x = some (.pointer (some ⟨it, 0, none⟩))) (h : Sat w L) (hL : L[n]? = some (iterR enc m it kvs left cur)) (hd : Nat.blt d c.n = true)
    (k0 : left = [] → ∀ w', Sat w' (L.set n (mapR enc m kvs)) → K ((d, .tuple #[.bool false]) :: l) w')
    (k1 : ∀ l1 q v l2, left = l1 ++ (q, v) :: l2 → ∀ w', Sat w' (L.set n (iterR enc m it kvs (l1 ++ l2) (some (q, v)))) → K ((d, .tuple #[.bool true, enc q, v]) :: l) w') : OpE c ds ⟨some d, .next x false, ty, pos, af, g⟩ l w K := by
  obtain ⟨gp, hsub, ⟨es, ck, seen, hb, hi, hne, hm, hl, hc⟩, upd⟩ := h.upd n hL
  have hlen : es.toList.length = kvs.length := by have := congrArg List.length hm.ent; simpa using this
  rcases run_next (P := c.P) ty (hsub _ _ hi) (hsub _ _ hb) hm.clock with ⟨h0, w', hr, hh, hio⟩ | ⟨e, he, w', hr, hh, hio⟩
  · refine OpE.value (v := .tuple #[.bool false]) (w' := w') (hio := hio) rfl hd (fun ρ hρ => ?_) (k0 (hl.trans ((leftK_nil _ _ _ hlen).1 h0)) w' ?_)
    · rw [Oper.semAt_eq _ _ _ (by intro c; simp)]
      simp [execOp, hρ _ _ hx, hr]
    · exact upd _ gp w' ⟨es, ck, hb, hm⟩ (fun i o ho => by simp only [hof, hh]; exact hsub i o ho) (fun i => by cases hg : gp i <;> simp) (fun i o _ ho => by rw [hh]; exact ho)
  · obtain ⟨l1, q, v, l2, e1, e2, e3, e4, e5⟩ := leftK_step (enc := enc) es.toList seen kvs e hlen hm.born hm.ent he
    refine OpE.value (v := .tuple #[.bool true, e.key, e.val]) (w' := w') (hio := hio) rfl hd (fun ρ hρ => ?_) ?_
    · rw [Oper.semAt_eq _ _ _ (by intro c; simp)]
      simp [execOp, hρ _ _ hx, hr]
    · rw [e3, e4]
      have hit := hsub _ _ hi
      have hlt : it < w.heap.size := (Array.getElem?_eq_some_iff.1 hit).1
      refine k1 l1 q v l2 (hl.trans e1) w' (upd _ (fun i => if i = it then some (.mapIter (some m) ck (seen.push e.born) ck) else gp i) w' ⟨es, ck, seen.push e.born, (by simpa [hne] using hb), by simp, hne, hm, e2.symm, ?_⟩ (fun i o ho => ?_) (fun i => ?_) (fun i o hgi ho => ?_))
      · intro c hc
        simp only [Option.some.injEq] at hc
        subst hc
        exact ⟨e, e5, by simp, e3, e4⟩
      · simp only [hof, hh, Array.getElem?_setIfInBounds]
        by_cases hi' : i = it
        · subst hi'; simp at ho; subst ho; simp [hlt]
        · simp only [hi', if_false] at ho
          rw [if_neg (by omega)]
          exact hsub i o ho
      · by_cases hi' : i = it
        · subst hi'; exact .inr (.inl (by rw [hi]; simp))
        · simp only [hi', if_false]
          cases hg : gp i <;> simp
      · simp only [hh, Array.getElem?_setIfInBounds]
        have : i ≠ it := by rintro rfl; rw [hi] at hgi; cases hgi
        rw [if_neg (by omega)]
        exact ho
theorem ef_entry {m it : Nat} {kvs left : List (κ × Value)} {q : κ} {v : Value} (n : Nat) (hx : ev l x = some (.pointer (some ⟨it, 0, none⟩))) (h : Sat w L) (hL : L[n]? = some (iterR enc m it kvs left (some (q, v)))) (hd : Nat.blt d c.n = true)
    (k : K ((d, .tuple #[enc q, v]) :: l) w) : OpE c ds ⟨some d, .entry x, ty, pos, af, g⟩ l w K := by
  obtain ⟨gp, hsub, es, ck, seen, hb, hi, hne, hm, hl, hc⟩ := SatH.get n h hL
  obtain ⟨e, he, hs, hk, hv⟩ := hc _ rfl
  refine OpE.value (v := .tuple #[enc q, v]) (w' := w) rfl hd (fun ρ hρ => ?_) k
  rw [Oper.semAt_eq _ _ _ (by intro c; simp)]
  have g1 : (getObj it).run c.P w = .ok (.mapIter (some m) ck seen ck) w := by simp [getObj, Sem.run, show w.heap[it]? = _ from hsub _ _ hi]
  have g2 : (getObj m).run c.P w = .ok (.map es ck) w := by simp [getObj, Sem.run, show w.heap[m]? = _ from hsub _ _ hb]
  have hf : es.find? (·.born == e.born) = some e := by
    rw [← Array.find?_toList]
    exact find_born _ _ hm.born he
  simp [execOp, Instr.entry, hρ _ _ hx, g1, g2, hs, hf, hk, hv]
end
end Go.Proofs.Slx
