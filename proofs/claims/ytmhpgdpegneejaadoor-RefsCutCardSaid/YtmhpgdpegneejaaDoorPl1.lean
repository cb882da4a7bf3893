import Derived.Test.YtmhpgdpegneejaaDoorPl0
set_option linter.unusedVariables false
set_option linter.unusedSimpArgs false
namespace Go.Proofs.YtmhpgdpegneejaaDoor
open Go Go.Proofs Go.Proofs.Slx
/-! ### The journal, read back -/
theorem jparse_app : ∀ (n : Nat) (F X : List UInt8) (rs : List (List UInt8)), F.length ≤ n → jparse F = (rs, F.length, false) →
    jparse (F ++ X) = (rs ++ (jparse X).1, F.length + (jparse X).2.1, (jparse X).2.2)
  | n, F, X, rs, hn, h => by
    by_cases h0 : F.length = 0
    · have hF : F = [] := List.length_eq_zero_iff.1 h0
      subst hF
      rw [jparse_nil] at h
      have : rs = [] := (congrArg Prod.fst h).symm
      subst this
      simp
    · by_cases h1 : (rWord (rText 262144 F 0).2.1 (rText 262144 F 0).2.2).2.2 = 110
      · rw [jparse_short h0 h1] at h
        have := congrArg (fun t => t.2.1) h
        simp only at this
        omega
      by_cases h2 : (rWord (rText 262144 F 0).2.1 (rText 262144 F 0).2.2).2.2 = 0
      · by_cases h3 : (rWord (rText 262144 F 0).2.1 (rText 262144 F 0).2.2).1 = hsh (rText 262144 F 0).1
        · obtain ⟨e0, hl⟩ := rWord_len h2
          have ht := rText_len e0
          have hta := rText_app (X := X) e0
          have h2' := h2
          rw [e0] at h2' h3 hl
          have hwa := rWord_app (X := X) h2'
          rw [jparse_go h2 (by rw [e0]; exact h3), e0] at h
          match n, hn with
          | 0, hn => omega
          | n + 1, hn =>
            have hrs := congrArg Prod.fst h
            have hsz := congrArg (fun t => t.2.1) h
            have hwr := congrArg (fun t => t.2.2) h
            simp only at hrs hsz hwr
            have hjl := jparse_len _ _ (Nat.le_refl (rWord (rText 262144 F 0).2.1 0).2.1.length)
            have hs2 : (jparse (rWord (rText 262144 F 0).2.1 0).2.1).2.1 = (rWord (rText 262144 F 0).2.1 0).2.1.length := by omega
            have ih := jparse_app n (rWord (rText 262144 F 0).2.1 0).2.1 X (jparse (rWord (rText 262144 F 0).2.1 0).2.1).1 (by omega) (Prod.ext rfl (Prod.ext hs2 hwr))
            have g2 : (rWord (rText 262144 (F ++ X) 0).2.1 (rText 262144 (F ++ X) 0).2.2).2.2 = 0 := by rw [hta]; simp only []; rw [hwa]
            have g3 : (rWord (rText 262144 (F ++ X) 0).2.1 (rText 262144 (F ++ X) 0).2.2).1 = hsh (rText 262144 (F ++ X) 0).1 := by rw [hta]; simp only []; rw [hwa]; exact h3
            rw [jparse_go g2 g3, hta]
            simp only []
            rw [hwa]
            simp only []
            rw [ih, ← hrs]
            simp only [List.cons_append, List.length_append, Prod.mk.injEq, true_and, and_true]
            omega
        · rw [jparse_wrong h0 h1 (.inr h3)] at h
          cases congrArg (fun t => t.2.2) h
      · rw [jparse_wrong h0 h1 (.inl h2)] at h
        cases congrArg (fun t => t.2.2) h
theorem jparse_rec {p : List UInt8} (hp : p.length ≤ 262144) (X : List UInt8) : jparse (recB p ++ X) = (p :: (jparse X).1, (recB p).length + (jparse X).2.1, (jparse X).2.2) := by
  have hs := bstr_size p
  have ht := rText_putT (m := 262144) (s := bstr p) (by omega) (by omega) (putW (hsh p) ++ X)
  rw [bstr_list] at ht
  have hw := rWord_putW (hsh_range p) X
  have e : recB p ++ X = putT (bstr p) ++ (putW (hsh p) ++ X) := by simp [recB]
  rw [e]
  rw [jparse_go (by rw [ht]; simp only []; rw [hw]) (by rw [ht]; simp only []; rw [hw]), ht]
  simp only []
  rw [hw]
  simp only [recB, List.length_append, Prod.mk.injEq, true_and, and_true]
  omega
/-- A record that is not all there. -/
theorem jparse_part {p : List UInt8} (hp : p.length ≤ 262144) {k : Nat} (hk : k < (recB p).length) : jparse ((recB p).take k) = ([], 0, false) := by
  by_cases h0 : ((recB p).take k).length = 0
  · rw [List.length_eq_zero_iff.1 h0, jparse_nil]
  refine jparse_short h0 ?_
  have hs := bstr_size p
  have hu := putU_len10 (x := p.length) (by omega)
  have e : recB p = putU p.length ++ (p ++ putW (hsh p)) := by simp [recB, putT, bstr_size, bstr_list]
  rw [e] at hk ⊢
  rw [List.take_append]
  by_cases h1 : k < (putU p.length).length
  · rw [show k - (putU p.length).length = 0 by omega, List.take_zero, List.append_nil]
    simp [rText, num_pre (by omega : p.length < 18446744073709551616) h1, rWord]
  · rw [List.take_of_length_le (by omega)]
    have hn := num_putU (x := p.length) (by omega) ((p ++ putW (hsh p)).take (k - (putU p.length).length))
    by_cases h2 : k - (putU p.length).length < p.length
    · have : rText 262144 (putU p.length ++ (p ++ putW (hsh p)).take (k - (putU p.length).length)) 0 = ([], putU p.length ++ (p ++ putW (hsh p)).take (k - (putU p.length).length), 110) := by
        simp only [rText, hn, if_true]
        rw [if_neg (by omega), if_pos (by simp only [List.length_append, List.length_take]; omega)]
      rw [this]
      rfl
    · rw [List.take_append, List.take_of_length_le (by omega)]
      have ht := rText_putT (m := 262144) (s := bstr p) (by omega) (by omega) ((putW (hsh p)).take (k - (putU p.length).length - p.length))
      rw [bstr_list] at ht
      have e2 : putU p.length ++ (p ++ (putW (hsh p)).take (k - (putU p.length).length - p.length)) = putT (bstr p) ++ (putW (hsh p)).take (k - (putU p.length).length - p.length) := by
        simp [putT, bstr_size, bstr_list]
      rw [e2, ht]
      simp only [rWord, if_true]
      simp only [List.length_append, putW_len] at hk
      rw [if_pos (by simp only [List.length_take, putW_len]; omega)]
/-- Raw writes: all, or the first few. -/
theorem pieces_gen : ∀ (n : Nat) (bs : List UInt8) (D : DiskV) (name : ByteArray), bs.length ≤ n → ∃ k, k ≤ bs.length ∧
    (((D.pieces name bs).2 = 0 ∧ k = bs.length) ∨ ((D.pieces name bs).2 = 6 ∧ k < bs.length ∧ D.cut = true)) ∧
    (D.pieces name bs).1.files = (if k = 0 then D.files else kset D.files name ((kget D.files name).getD [] ++ bs.take k)) ∧ (D.pieces name bs).1.cut = D.cut
  | n, bs, D, name, hn => by
    by_cases hb : bs = []
    · subst hb
      exact ⟨0, Nat.le_refl _, .inl ⟨by rw [pieces_nil], rfl⟩, by rw [pieces_nil]; rfl, by rw [pieces_nil]⟩
    · have hpos : 0 < bs.length := List.length_pos_iff.2 hb
      cases hst : D.stop with
      | true =>
        refine ⟨0, Nat.zero_le _, .inr ⟨by rw [pieces_stop hb hst], hpos, ?_⟩, by rw [pieces_stop hb hst]; rfl, by rw [pieces_stop hb hst]⟩
        simp only [DiskV.stop, Bool.and_eq_true] at hst
        exact hst.1
      | false =>
        match n, hn with
        | 0, hn => omega
        | n + 1, hn =>
          obtain ⟨k, hk, hr, hf, hc⟩ := pieces_gen n (bs.drop 32) { D.went with files := kset D.files name ((kget D.files name).getD [] ++ bs.take 32) } name (by simp; omega)
          rw [pieces_go hb hst]
          have e1 : (kget (kset D.files name ((kget D.files name).getD [] ++ bs.take 32)) name).getD [] = (kget D.files name).getD [] ++ bs.take 32 := by rw [kget_kset]; simp
          simp only [List.length_drop] at hk hr
          refine ⟨min 32 bs.length + k, by omega, ?_, ?_, hc⟩
          · rcases hr with ⟨r1, r2⟩ | ⟨r1, r2, r3⟩
            · exact .inl ⟨r1, by omega⟩
            · exact .inr ⟨r1, by omega, r3⟩
          · rw [if_neg (by omega), hf]
            simp only [e1]
            by_cases hk0 : k = 0
            · subst hk0
              rw [if_pos rfl, Nat.add_zero]
              congr 2
              by_cases h32 : 32 ≤ bs.length
              · rw [Nat.min_eq_left h32]
              · rw [Nat.min_eq_right (by omega), List.take_of_length_le (by omega), List.take_of_length_le (Nat.le_refl _)]
            · rw [if_neg hk0, kset_twice, List.append_assoc]
              congr 2
              have h32 : 32 ≤ bs.length := by omega
              rw [Nat.min_eq_left h32, List.take_add]
theorem append_gen {D : DiskV} {name : ByteArray} {bs : List UInt8} (hm : may name = true) (hb : bs ≠ []) (hf : D.files.length ≤ 1) (hs : ((kget D.files name).getD []).length + bs.length ≤ 4194304) :
    ∃ k, k ≤ bs.length ∧ (((D.append name bs).2 = 0 ∧ k = bs.length) ∨ ((D.append name bs).2 = 6 ∧ k < bs.length ∧ D.cut = true)) ∧
    (D.append name bs).1.files = (if k = 0 then D.files else kset D.files name ((kget D.files name).getD [] ++ bs.take k)) ∧ (D.append name bs).1.cut = D.cut := by
  have key := pieces_gen _ bs D name (Nat.le_refl _)
  cases hk : kget D.files name with
  | none =>
    rw [hk] at hs
    simp only [Option.getD_none, List.length_nil] at hs
    rw [append_new hm hk (by omega) (by omega) hb]
    rw [hk] at key
    exact key
  | some f =>
    rw [hk] at hs
    simp only [Option.getD_some] at hs
    rw [append_go hm hk (by omega)]
    rw [hk] at key
    exact key
end Go.Proofs.YtmhpgdpegneejaaDoor
