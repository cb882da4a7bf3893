import Derived.Test.YtmhpgdpegneejaaDoorLr0
set_option linter.unusedVariables false
set_option linter.unusedSimpArgs false
namespace Go.Proofs.Slx
open Go
/-! ### 51. The forms, read back -/
theorem numL_app : ∀ (F X : List UInt8) (i x : Nat), (numL i x F).2.2 = 0 → numL i x (F ++ X) = numL i x F
  | [], X, i, x, h => by simp [numL] at h
  | c :: r, X, i, x, h => by
    simp only [List.cons_append, numL] at h ⊢
    split
    · rfl
    · rename_i h1
      rw [if_neg h1] at h
      split
      · rfl
      · rename_i h2
        rw [if_neg h2] at h
        exact numL_app r X _ _ h
theorem num_app {F X : List UInt8} (h : (num F).2.2 = 0) : num (F ++ X) = num F := numL_app F X 0 0 h
theorem rText_app {m : Nat} {F X : List UInt8} (h : (rText m F 0).2.2 = 0) : rText m (F ++ X) 0 = ((rText m F 0).1, (rText m F 0).2.1 ++ X, 0) := by
  simp only [rText, if_true] at h ⊢
  by_cases h1 : (num F).2.2 = 0
  · have hl := num_len h1
    rw [num_app h1]
    simp only [if_pos h1] at h ⊢
    by_cases h2 : m < (num F).1
    · simp [if_pos h2] at h
    · simp only [if_neg h2] at h ⊢
      by_cases h3 : F.length - (num F).2.1 < (num F).1
      · simp [if_pos h3] at h
      · simp only [if_neg h3, List.length_append, if_neg (show ¬F.length + X.length - (num F).2.1 < (num F).1 by omega)]
        rw [List.drop_append_of_le_length hl.2, List.take_append_of_le_length (by simp; omega), List.drop_append_of_le_length (by simp; omega)]
  · simp only [if_neg h1] at h
    exact absurd h h1
theorem rWord_app {F X : List UInt8} (h : (rWord F 0).2.2 = 0) : rWord (F ++ X) 0 = ((rWord F 0).1, (rWord F 0).2.1 ++ X, 0) := by
  simp only [rWord, if_true] at h ⊢
  by_cases h2 : F.length < 8
  · simp [if_pos h2] at h
  · simp only [if_neg h2, List.length_append, if_neg (show ¬F.length + X.length < 8 by omega)]
    rw [List.take_append_of_le_length (by omega), List.drop_append_of_le_length (by omega)]
theorem or_add {a b : Nat} (n : Nat) (h : a < 2 ^ n) : a ||| b * 2 ^ n = a + b * 2 ^ n := by
  rw [Nat.mul_comm b, Nat.or_comm, Nat.add_comm]
  exact (Nat.two_pow_add_eq_or_of_lt h b).symm
theorem and127 (n : Nat) : n &&& 127 = n % 128 := Nat.and_two_pow_sub_one_eq_mod n 7
theorem or128 {x : Nat} : (x % 256 ||| 128) % 128 = x % 128 ∧ 128 ≤ (x % 256 ||| 128) ∧ (x % 256 ||| 128) < 256 := by
  have h1 : x % 256 ||| 128 < 2 ^ 8 := Nat.or_lt_two_pow (n := 8) (Nat.mod_lt _ (by decide)) (by decide)
  refine ⟨?_, Nat.right_le_or, h1⟩
  rw [show (128 : Nat) = 2 ^ 7 from rfl, Nat.or_mod_two_pow]
  simp
/-- Reading a number's short form, from the i-th byte on. -/
theorem numL_putU : ∀ (n x : Nat), x < 128 ^ n → ∀ (i acc : Nat) (X : List UInt8), acc < 2 ^ (7 * i) → i + n ≤ 10 → x * 2 ^ (7 * i) < 18446744073709551616 → (0 < i → 0 < x) →
    numL i acc (putU x ++ X) = (acc + x * 2 ^ (7 * i), i + (putU x).length, 0)
  | 0, x, hx, i, acc, X, ha, hi, hb, hp => by
    have : x = 0 := by simpa using hx
    subst this
    have h0 : i = 0 := by omega
    subst h0
    rw [putU_end (by omega)]
    have : acc = 0 := by simpa using ha
    subst this
    rfl
  | n + 1, x, hx, i, acc, X, ha, hi, hb, hp => by
    have hpw : 0 < 2 ^ (7 * i) := Nat.two_pow_pos _
    by_cases h : 128 ≤ x
    · rw [putU_go h]
      obtain ⟨m1, m2, m3⟩ := or128 (x := x)
      have hc : (UInt8.ofNat (x % 256 ||| 128)).toNat = x % 256 ||| 128 := by rw [UInt8.toNat_ofNat', Nat.mod_eq_of_lt m3]
      have hi9 : i < 9 := by
        rcases Nat.lt_or_ge i 9 with q | q
        · exact q
        · have : (2 : Nat) ^ 63 ≤ 2 ^ (7 * i) := Nat.pow_le_pow_right (by decide) (by omega)
          have h3 : 128 * 2 ^ 63 ≤ x * 2 ^ (7 * i) := Nat.mul_le_mul h this
          omega
      simp only [List.cons_append, numL, hc]
      rw [if_neg (by omega), if_neg (by omega), and127, m1]
      have e1 : x % 128 * 2 ^ (7 * i) < 18446744073709551616 := by
        refine Nat.lt_of_le_of_lt (Nat.mul_le_mul_right _ ?_) hb
        omega
      rw [Nat.mod_eq_of_lt e1, or_add _ ha]
      have e2 : (2 : Nat) ^ (7 * (i + 1)) = 2 ^ (7 * i) * 128 := by rw [show 7 * (i + 1) = 7 * i + 7 by omega, Nat.pow_add]
      have hxd : x = x % 128 + x / 128 * 128 := by omega
      rw [numL_putU n (x / 128) (by rw [Nat.pow_succ] at hx; omega) (i + 1) _ X ?_ (by omega) ?_ (fun _ => by omega)]
      · simp only [List.length_cons, e2, Prod.mk.injEq, and_true]
        constructor
        · rw [Nat.add_assoc]
          congr 1
          rw [show x / 128 * (2 ^ (7 * i) * 128) = (x / 128 * 128) * 2 ^ (7 * i) by rw [Nat.mul_comm (2 ^ (7 * i)) 128, Nat.mul_assoc], ← Nat.add_mul]
          rw [← hxd]
        · omega
      · rw [e2]
        have : x % 128 * 2 ^ (7 * i) ≤ 127 * 2 ^ (7 * i) := Nat.mul_le_mul_right _ (by omega)
        omega
      · rw [e2]
        refine Nat.lt_of_le_of_lt ?_ hb
        rw [show x / 128 * (2 ^ (7 * i) * 128) = (x / 128 * 128) * 2 ^ (7 * i) by rw [Nat.mul_comm (2 ^ (7 * i)) 128, Nat.mul_assoc]]
        exact Nat.mul_le_mul_right _ (by omega)
    · rw [putU_end h]
      have hc : (UInt8.ofNat x).toNat = x := by rw [UInt8.toNat_ofNat', Nat.mod_eq_of_lt (by omega)]
      have h9 : ¬(i = 9 ∧ 1 < x) := by
        rintro ⟨rfl, h1⟩
        have : (2 : Nat) ^ (7 * 9) = 9223372036854775808 := by decide
        omega
      simp only [List.cons_append, List.nil_append, numL, hc]
      rw [if_neg (by omega), if_pos (by omega), and127, Nat.mod_eq_of_lt (by omega : x < 128), Nat.mod_eq_of_lt hb, or_add _ ha]
      rfl
theorem num_putU {x : Nat} (h : x < 18446744073709551616) (X : List UInt8) : num (putU x ++ X) = (x, (putU x).length, 0) := by
  have := numL_putU 10 x (by omega) 0 0 X (by decide) (by omega) (by simpa using h) (fun h => by omega)
  simpa [num] using this
theorem numL_pre : ∀ (n x : Nat), x < 128 ^ n → ∀ (i acc k : Nat), i + n ≤ 10 → x * 2 ^ (7 * i) < 18446744073709551616 → k < (putU x).length → numL i acc ((putU x).take k) = (0, 0, 110)
  | n, x, hx, i, acc, 0, hi, hb, hk => rfl
  | 0, x, hx, i, acc, k + 1, hi, hb, hk => by
    have : x = 0 := by simpa using hx
    subst this
    rw [putU_end (by omega)] at hk
    simp at hk
  | n + 1, x, hx, i, acc, k + 1, hi, hb, hk => by
    by_cases h : 128 ≤ x
    · rw [putU_go h] at hk ⊢
      obtain ⟨m1, m2, m3⟩ := or128 (x := x)
      have hc : (UInt8.ofNat (x % 256 ||| 128)).toNat = x % 256 ||| 128 := by rw [UInt8.toNat_ofNat', Nat.mod_eq_of_lt m3]
      have hi9 : i < 9 := by
        rcases Nat.lt_or_ge i 9 with q | q
        · exact q
        · have : (2 : Nat) ^ 63 ≤ 2 ^ (7 * i) := Nat.pow_le_pow_right (by decide) (by omega)
          have h3 : 128 * 2 ^ 63 ≤ x * 2 ^ (7 * i) := Nat.mul_le_mul h this
          omega
      have e2 : (2 : Nat) ^ (7 * (i + 1)) = 2 ^ (7 * i) * 128 := by rw [show 7 * (i + 1) = 7 * i + 7 by omega, Nat.pow_add]
      simp only [List.take_succ_cons, numL, hc]
      rw [if_neg (by omega), if_neg (by omega)]
      refine numL_pre n (x / 128) (by rw [Nat.pow_succ] at hx; omega) (i + 1) _ k (by omega) ?_ (by simp at hk; omega)
      rw [e2]
      refine Nat.lt_of_le_of_lt ?_ hb
      rw [show x / 128 * (2 ^ (7 * i) * 128) = (x / 128 * 128) * 2 ^ (7 * i) by rw [Nat.mul_comm (2 ^ (7 * i)) 128, Nat.mul_assoc]]
      exact Nat.mul_le_mul_right _ (by omega)
    · rw [putU_end h] at hk
      simp at hk
theorem num_pre {x k : Nat} (h : x < 18446744073709551616) (hk : k < (putU x).length) : num ((putU x).take k) = (0, 0, 110) :=
  numL_pre 10 x (by omega) 0 0 k (by omega) (by simpa using h) hk
theorem rUint_putU {x : Nat} (h : x < 18446744073709551616) (X : List UInt8) : rUint (putU x ++ X) 0 = (x, X, 0) := by
  simp [rUint, num_putU h X]
theorem rText_putT {m : Nat} {s : ByteArray} (h : s.size ≤ m) (h2 : s.size < 18446744073709551616) (X : List UInt8) : rText m (putT s ++ X) 0 = (s.data.toList, X, 0) := by
  have e9 : s.data.toList.length = s.size := rfl
  simp only [rText, putT, List.append_assoc, num_putU h2, if_true]
  rw [if_neg (by omega), if_neg (by simp only [List.length_append]; omega)]
  rw [List.drop_left, ← e9, List.take_left, List.drop_left]
theorem beL_snoc : ∀ (l : List UInt8) (y : Nat) (c : UInt8), beL y (l ++ [c]) = beL y l * 256 % 18446744073709551616 ||| c.toNat
  | [], y, c => rfl
  | d :: l, y, c => beL_snoc l _ c
theorem be_take {x : Nat} (h : x < 18446744073709551616) : ∀ k, k ≤ 8 → beL 0 ((putW x).take k) = x / 2 ^ (64 - 8 * k)
  | 0, _ => (Nat.div_eq_of_lt (Nat.lt_of_lt_of_eq h (by decide : (18446744073709551616 : Nat) = 2 ^ (64 - 8 * 0)))).symm
  | k + 1, hk => by
    rw [List.take_add_one, putW_at (by omega : k < 8)]
    simp only [Option.toList_some]
    rw [beL_snoc, be_take h k (by omega), UInt8.toNat_ofNat', Nat.mod_mod, show 64 - 8 * (k + 1) = 56 - 8 * k by omega, show 64 - 8 * k = (56 - 8 * k) + 8 by omega, Nat.pow_add, ← Nat.div_div_eq_div_mul]
    generalize hz : x / 2 ^ (56 - 8 * k) = z
    have hzx : z ≤ x := by rw [← hz]; exact Nat.div_le_self _ _
    have e8 : (2 : Nat) ^ 8 = 256 := rfl
    rw [e8, Nat.mod_eq_of_lt (by omega), Nat.or_comm]
    have := or_add (a := z % 256) (b := z / 256) 8 (by rw [e8]; omega)
    rw [e8] at this
    rw [this]
    omega
theorem be8_putW {x : Nat} (h : x < 18446744073709551616) : be8 (putW x) = x := by
  have := be_take h 8 (Nat.le_refl _)
  rw [List.take_of_length_le (by rw [putW_len]; omega)] at this
  rw [be8, this]
  exact Nat.div_one x
theorem rWord_putW {x : Nat} (h : x < 18446744073709551616) (X : List UInt8) : rWord (putW x ++ X) 0 = (x, X, 0) := by
  have hl := putW_len x
  simp only [rWord, if_true]
  rw [if_neg (by simp only [List.length_append]; omega), ← hl, List.take_left, List.drop_left, be8_putW h]
end Go.Proofs.Slx
