import Derived.Test.YtmhpgdpegneejaaDoorPl1
set_option linter.unusedVariables false
set_option linter.unusedSimpArgs false
namespace Go.Proofs.YtmhpgdpegneejaaDoor
open Go Go.Proofs Go.Proofs.Slx
/-! ### Records of refs, read back -/
def encC (ch : Ids) : List UInt8 := ch.flatMap fun c => putT c.1 ++ putW c.2
theorem encC_snoc (ch : Ids) (c : ByteArray × Nat) : encC (ch ++ [c]) = encC ch ++ putT c.1 ++ putW c.2 := by simp [encC]
theorem bstr_data (s : ByteArray) : bstr s.data.toList = s := by cases s; simp [bstr]
theorem mayE_size {s : ByteArray} (h : mayE s = 0) : s.size ≤ 200 := by
  by_cases h1 : 200 < s.size
  · simp only [mayE, pathE, if_pos h1] at h
    simp at h
  · omega
theorem kset_new2 {l : Ids} {k : ByteArray} {n : Nat} (h : k ∉ keys l) : kset l k n = l ++ [(k, n)] := by
  induction l with
  | nil => rfl
  | cons c r ih =>
    simp only [keys, List.map_cons, List.mem_cons, not_or] at h
    obtain ⟨q, m⟩ := c
    simp only [kset]
    rw [if_neg (fun e => h.1 e.symm), ih (by simpa [keys] using h.2)]
    rfl
/-- What a list of changes has to be. -/
structure Chg (I : Ids) (ch : Ids) : Prop where
  nd : (keys ch).Nodup
  ok : ∀ c, c ∈ ch → mayE c.1 = 0 ∧ c.2 < 18446744073709551616 ∧ (c.2 = 0 → ¬kget I c.1 = none)
theorem recL_enc {I : Ids} : ∀ (ch met : Ids) (X : List UInt8), (keys (met ++ ch)).Nodup → (∀ c, c ∈ ch → mayE c.1 = 0 ∧ c.2 < 18446744073709551616 ∧ (c.2 = 0 → ¬kget I c.1 = none)) →
    recL I ch.length (encC ch ++ X) 0 met = some (met ++ ch, X, 0)
  | [], met, X, hn, hc => by simp [recL, encC]
  | c :: r, met, X, hn, hc => by
    obtain ⟨h1, h2, h3⟩ := hc c List.mem_cons_self
    have hsz := mayE_size h1
    have e : encC (c :: r) ++ X = putT c.1 ++ (putW c.2 ++ (encC r ++ X)) := by simp [encC]
    have ht := rText_putT (m := 200) hsz (by omega) (putW c.2 ++ (encC r ++ X))
    have hw := rWord_putW h2 (encC r ++ X)
    have hk : c.1 ∉ keys met := by
      simp only [keys, List.map_append, List.map_cons] at hn
      have := (List.nodup_append.1 hn).2.2
      intro h
      exact this _ h _ List.mem_cons_self rfl
    rw [e, List.length_cons]
    simp only [recL]
    rw [ht]
    simp only []
    rw [hw, bstr_data]
    simp only []
    have hk2 : (kget met c.1).isSome = false := by rw [kget_none.2 hk]; rfl
    rw [if_neg (by rintro (q | q | q); exact q trivial; (rw [hk2] at q; cases q); exact q h1), if_neg (fun q => h3 q.1 q.2), kset_new2 hk, recL_enc r (met ++ [c]) X (by simpa using hn) (fun d hd => hc d (List.mem_cons_of_mem _ hd))]
    simp
def payC (ch : Ids) : List UInt8 := putU ch.length ++ encC ch
theorem recR_enc {I ch : Ids} (h : Chg I ch) (hl : ch.length < 18446744073709551616) : recR I (payC ch) = some (ch, [], 0) := by
  have hu := rUint_putU hl (encC ch)
  simp only [recR, payC]
  rw [hu]
  simp only []
  have := recL_enc (I := I) ch [] [] (by simpa using h.nd) h.ok
  simpa using this
theorem rec_enc {I ch : Ids} (h : Chg I ch) (hl : ch.length < 18446744073709551616) (h0 : 0 < ch.length) (h64 : (layI I ch).length ≤ 64) : recOk I (payC ch) = true ∧ recI I (payC ch) = layI I ch := by
  have := recR_enc h hl
  simp only [recOk, recI, this]
  simp [rEnd, h0, h64]
/-! ### Refs as a map -/
theorem recL_congr {I K : Ids} (e : ∀ k, kget K k = kget I k) : ∀ (n : Nat) (bl : List UInt8) (er : Int) (met : Ids), recL K n bl er met = recL I n bl er met
  | 0, bl, er, met => rfl
  | n + 1, bl, er, met => by
    simp only [recL, e]
    split
    · rfl
    · split
      · rfl
      · exact recL_congr e n _ _ _
theorem layI_eqv {I K C : Ids} (e : Eqv K I) (hC : (keys C).Nodup) : Eqv (layI K C) (layI I C) :=
  ⟨fun k => by rw [layI_get C e.2.1 hC, layI_get C e.2.2 hC]; simp only [layG, e.1], layI_nodup C e.2.1, layI_nodup C e.2.2⟩
theorem setL_congr {I K : Ids} (e : ∀ k, kget K k = kget I k) : ∀ (l : Ids) (met : List ByteArray) (ch : Ids) (sz : Int) (bs : List UInt8), setL K l met ch sz bs = setL I l met ch sz bs
  | [], met, ch, sz, bs => rfl
  | c :: r, met, ch, sz, bs => by
    simp only [setL, e]
    split
    · rfl
    · split
      · rfl
      · split
        · rfl
        · split
          · exact setL_congr e r _ _ _ _
          · exact setL_congr e r _ _ _ _
theorem kset_length {l : Ids} {k : ByteArray} {n : Nat} : (kset l k n).length = if (kget l k).isSome = true then l.length else l.length + 1 := by
  induction l with
  | nil => rfl
  | cons c r ih =>
    obtain ⟨q, m⟩ := c
    simp only [kset, kget]
    by_cases h : q = k
    · simp [h]
    · simp only [if_neg h, List.length_cons, ih]
      split <;> rfl
theorem kdel_length {l : Ids} {k : ByteArray} : (kdel l k).length + (if (kget l k).isSome = true then 1 else 0) = l.length := by
  induction l with
  | nil => rfl
  | cons c r ih =>
    obtain ⟨q, m⟩ := c
    simp only [kdel, kget]
    by_cases h : q = k
    · simp [h]
    · simp only [if_neg h, List.length_cons]
      omega
theorem layI_snoc (I C : Ids) (c : ByteArray × Nat) : layI I (C ++ [c]) = if c.2 = 0 then kdel (layI I C) c.1 else kset (layI I C) c.1 c.2 := by simp [layI]
/-- What setL keeps. -/
structure SetS (I : Ids) (met : List ByteArray) (ch : Ids) (sz : Int) (bs : List UInt8) : Prop where
  enc : bs = encC ch
  chg : Chg I ch
  met : ∀ k, k ∈ keys ch → hasK k met = true
  diff : ∀ c, c ∈ ch → ¬(kget I c.1).getD 0 = c.2
  size : sz = (layI I ch).length
theorem SetS.start {I : Ids} : SetS I [] [] I.length [] := ⟨rfl, ⟨by simp [keys], fun c h => (nomatch h)⟩, fun k h => (by simp [keys] at h), fun c h => (nomatch h), rfl⟩
theorem hasK_app {k q : ByteArray} {met : List ByteArray} (h : hasK k met = true) : hasK k (met ++ [q]) = true := by
  rw [hasK_iff] at h ⊢
  exact List.mem_append_left _ h
theorem setL_keeps {I : Ids} (hI : (keys I).Nodup) : ∀ (l : Ids) (met : List ByteArray) (ch : Ids) (sz : Int) (bs : List UInt8), (∀ x, x ∈ l → x.2 < 18446744073709551616) → SetS I met ch sz bs →
    (setL I l met ch sz bs).1 = 0 → ∃ met', SetS I met' (setL I l met ch sz bs).2.1 (setL I l met ch sz bs).2.2.1 (setL I l met ch sz bs).2.2.2
  | [], met, ch, sz, bs, hl, h, he => ⟨met, h⟩
  | c :: r, met, ch, sz, bs, hl, h, he => by
    have hr : ∀ x, x ∈ r → x.2 < 18446744073709551616 := fun x hx => hl x (List.mem_cons_of_mem _ hx)
    simp only [setL] at he ⊢
    by_cases h1 : mayE c.1 = 0
    · rw [if_neg (fun x => x h1)] at he ⊢
      by_cases h2 : hasK c.1 met = true
      · simp [if_pos h2] at he
      · rw [if_neg h2] at he ⊢
        by_cases h3 : c.2 = 0 ∧ kget I c.1 = none
        · simp [if_pos h3] at he
        · rw [if_neg h3] at he ⊢
          by_cases h4 : (kget I c.1).getD 0 = c.2
          · rw [if_pos h4] at he ⊢
            exact setL_keeps hI r _ _ _ _ hr ⟨h.enc, h.chg, fun k hk => hasK_app (h.met k hk), h.diff, h.size⟩ he
          · rw [if_neg h4] at he ⊢
            have hk : c.1 ∉ keys ch := fun x => h2 (h.met _ x)
            have hg := layI_get ch hI h.chg.nd c.1
            have hg2 : kget (layI I ch) c.1 = kget I c.1 := by rw [hg]; simp only [layG, kget_none.2 hk]
            refine setL_keeps hI r _ _ _ _ hr ⟨?_, ⟨?_, ?_⟩, ?_, ?_, ?_⟩ he
            · rw [kset_new2 hk, encC_snoc, h.enc]
            · exact Slx.nodup_kset h.chg.nd _ _
            · intro d hd
              rw [kset_new2 hk] at hd
              rcases List.mem_append.1 hd with q | q
              · exact h.chg.ok d q
              · simp only [List.mem_singleton] at q
                subst q
                exact ⟨h1, hl _ List.mem_cons_self, fun q1 q2 => h3 ⟨q1, q2⟩⟩
            · intro k hk'
              rw [kset_new2 hk] at hk'
              simp only [keys, List.map_append, List.map_cons, List.map_nil] at hk'
              rcases List.mem_append.1 hk' with q | q
              · exact hasK_app (h.met k q)
              · simp only [List.mem_singleton] at q
                rw [q, hasK_iff]
                simp
            · intro d hd
              rw [kset_new2 hk] at hd
              rcases List.mem_append.1 hd with q | q
              · exact h.diff d q
              · simp only [List.mem_singleton] at q
                subst q
                exact h4
            · rw [kset_new2 hk, layI_snoc, h.size]
              by_cases h0 : c.2 = 0
              · simp only [if_pos h0]
                have := kdel_length (l := layI I ch) (k := c.1)
                rw [hg2] at this
                have hs : (kget I c.1).isSome = true := by
                  cases hx : kget I c.1 with
                  | none => exact absurd ⟨h0, hx⟩ h3
                  | some _ => rfl
                rw [if_pos hs] at this
                omega
              · simp only [if_neg h0, kset_length, hg2]
                split
                · rfl
                · omega
    · rw [if_pos h1] at he
      exact absurd he h1
end Go.Proofs.YtmhpgdpegneejaaDoor
