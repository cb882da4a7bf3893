import Derived.Test.YtmhpgdpegneejaaDoorPl5
set_option linter.unusedVariables false
set_option linter.unusedSimpArgs false
namespace Go.Proofs.YtmhpgdpegneejaaDoor
open Go Go.Proofs Go.Proofs.Slx
/-! ### RefsAgain -/
theorem view_length (I : Ids) : (view I).length = I.length := by
  rw [view_len, sortS_len]
  simp [keys]
structure Ag (V : RefV) (la : Ids) : Prop where
  nd : (keys la).Nodup
  eq : ∀ k n, kget la k = some n → (kget V.ids k).getD 0 = n
theorem out_one {I : Ids} {q : ByteArray × Nat} (h : outE I [q] = 0) : (outC I [q] = [] ∧ (kget I q.1).getD 0 = q.2) ∨ outC I [q] = [q] := by
  simp only [outE, outC, setL] at h ⊢
  by_cases h1 : mayE q.1 = 0
  · simp only [h1, not_true, if_false] at h ⊢
    have h2 : ¬hasK q.1 [] = true := by simp [hasK]
    simp only [if_neg h2] at h ⊢
    by_cases h3 : q.2 = 0 ∧ kget I q.1 = none
    · simp [if_pos h3] at h
    · simp only [if_neg h3] at h ⊢
      by_cases h4 : (kget I q.1).getD 0 = q.2
      · simp only [if_pos h4] at h ⊢
        exact .inl ⟨trivial, h4⟩
      · simp only [if_neg h4] at h ⊢
        exact .inr rfl
  · simp only [h1, not_false_eq_true, if_true] at h
    simp [h1] at h
theorem Ag.put {V V' : RefV} {la : Ids} {q : ByteArray × Nat} (ha : Ag V la) (h1 : (kget V'.ids q.1).getD 0 = q.2) (h2 : ∀ k, ¬q.1 = k → kget V'.ids k = kget V.ids k) : Ag V' (kset la q.1 q.2) := by
  refine ⟨Slx.nodup_kset ha.nd _ _, fun k n e => ?_⟩
  rw [kget_kset] at e
  by_cases hk : q.1 = k
  · rw [if_pos hk] at e
    subst hk
    simp only [Option.some.injEq] at e
    rw [h1, e]
  · rw [if_neg hk] at e
    rw [h2 k hk]
    exact ha.eq k n e
theorem ag_step {V V' : RefV} {m : Nat} {la : Ids} {q : ByteArray × Nat} {e : Int} (h : Good V m) (hm : m ≤ 4000000) (hc : V.disk.cut = false) (hq : q.2 < 18446744073709551616) (ha : Ag V la)
    (hs : RefV.set ⟨V.ids, V.jrn, V.disk⟩ [q] = (V', e)) : Good V' (m + 20000) ∧ V'.disk.cut = false ∧ (e = 0 → Ag V' (kset la q.1 q.2)) ∧ (¬e = 0 → Ag V' la) := by
  have hs : V.set [q] = (V', e) := hs
  rcases set_step h hm (l := [q]) (by simp) (fun x hx => by simp only [List.mem_singleton] at hx; rw [hx]; exact hq) with ⟨q1, q2⟩ | ⟨q1, q2, q3⟩ | ⟨q1, q2, V1, q3, q4, q5, q6⟩ | ⟨_, _, q1, _⟩
  · rw [hs] at q2
    simp only [Prod.mk.injEq] at q2
    obtain ⟨rfl, rfl⟩ := q2
    exact ⟨h.more (by omega), hc, fun x => absurd x q1, fun _ => ha⟩
  · rw [hs] at q3
    simp only [Prod.mk.injEq] at q3
    obtain ⟨rfl, rfl⟩ := q3
    refine ⟨h.more (by omega), hc, fun _ => ?_, fun x => absurd rfl x⟩
    rcases out_one q1 with ⟨_, g⟩ | g
    · exact ha.put g (fun _ _ => rfl)
    · rw [g] at q2; cases q2
  · rw [hs] at q3
    simp only [Prod.mk.injEq] at q3
    obtain ⟨rfl, rfl⟩ := q3
    refine ⟨q6, by rw [q5]; exact hc, fun _ => ?_, fun x => absurd rfl x⟩
    rcases out_one q1 with ⟨g, _⟩ | g
    · rw [g] at q2; exact absurd rfl q2
    · rw [g] at q4
      have hg : ∀ k, kget V'.ids k = if q.1 = k then (if q.2 = 0 then none else some q.2) else kget V.ids k := fun k => by
        rw [q4]
        exact lay1_get h.nd q k
      refine ha.put ?_ (fun k hk => by rw [hg, if_neg hk])
      rw [hg, if_pos rfl]
      split
      · rename_i h0; rw [h0]; rfl
      · rfl
  · rw [hc] at q1; cases q1
theorem ag_flag {V : RefV} {m : Nat} {la : Ids} {q : ByteArray} {id : Nat} (h : Good V m) (ha : Ag V la) (hq : kget la q = some id) :
    (!(decide ((if (kget V.ids q).isSome = true then (0 : Int) else 4) = 0) == !decide ((id : Int) = 0))) = false := by
  have e := ha.eq q id hq
  cases hk : kget V.ids q with
  | none =>
    rw [hk] at e
    have : id = 0 := e.symm
    subst this
    rfl
  | some n =>
    rw [hk] at e
    have : n = id := e
    subst this
    have hn := (h.nm q n hk).2.1
    have : ¬(n : Int) = 0 := by omega
    simp [this, hn]
theorem sortS_pm (l : List ByteArray) : (sortS l).Perm l := by
  unfold sortS
  have h1 := (List.mergeSort_perm (l.map fun s => s.data.toList) fun x y => decide (x ≤ y)).map fun x : List UInt8 => (⟨x.toArray⟩ : ByteArray)
  refine h1.trans ?_
  rw [List.map_map]
  have : (fun x : List UInt8 => (⟨x.toArray⟩ : ByteArray)) ∘ (fun s : ByteArray => s.data.toList) = id := by
    funext s
    exact bytes_of s
  rw [this, List.map_id]
theorem keys_view (I : Ids) : keys (view I) = sortS (keys I) := by simp [keys, view, Function.comp_def]
theorem setL_same_all {I : Ids} : ∀ (l : Ids) (met : List ByteArray) (sz : Int), (∀ c, c ∈ l → mayE c.1 = 0 ∧ ¬c.2 = 0 ∧ (kget I c.1).getD 0 = c.2) → (met ++ keys l).Nodup → setL I l met [] sz [] = (0, [], sz, [])
  | [], met, sz, h, hn => rfl
  | c :: r, met, sz, h, hn => by
    obtain ⟨h1, h2, h3⟩ := h c List.mem_cons_self
    have hk : ¬hasK c.1 met = true := by
      rw [hasK_iff]
      intro hx
      simp only [keys, List.map_cons] at hn
      exact (List.nodup_append.1 hn).2.2 _ hx _ List.mem_cons_self rfl
    simp only [setL]
    rw [if_neg (fun x => x h1), if_neg hk, if_neg (fun x => h2 x.1), if_pos h3]
    exact setL_same_all r _ sz (fun d hd => h d (List.mem_cons_of_mem _ hd)) (by simpa [keys] using hn)
theorem view_ok {V : RefV} {m : Nat} (h : Good V m) (c : ByteArray × Nat) (hc : c ∈ view V.ids) : mayE c.1 = 0 ∧ ¬c.2 = 0 ∧ (kget V.ids c.1).getD 0 = c.2 ∧ c.2 < 18446744073709551616 ∧ c.1.size ≤ 200 := by
  obtain ⟨h1, h2⟩ := mem_view hc
  rw [mem_keys_kget] at h1
  cases hk : kget V.ids c.1 with
  | none => rw [hk] at h1; cases h1
  | some n =>
    obtain ⟨g1, g2, g3⟩ := h.nm _ _ hk
    rw [hk] at h2
    simp only [Option.getD_some] at h2
    exact ⟨g1, by omega, by simp [h2], by omega, mayE_size g1⟩
theorem ag_view {V : RefV} {m : Nat} (h : Good V m) : RefV.set ⟨V.ids, V.jrn, V.disk⟩ (view V.ids) = (V, 0) := by
  have hs := setL_same_all (I := V.ids) (view V.ids) [] V.ids.length (fun c hc => by obtain ⟨a, b, c, _⟩ := view_ok h c hc; exact ⟨a, b, c⟩)
    (by rw [List.nil_append, keys_view]; exact (sortS_pm _).nodup_iff.2 h.nd)
  have := h.len
  exact set_nil (V := V) hs (by omega) rfl
end Go.Proofs.YtmhpgdpegneejaaDoor
