import Derived.Test.YtmhpgdpegneejaaDoorRf0
import Derived.Test.YtmhpgdpegneejaaDoorSl8
import Derived.Laws.Bits64
import Derived.Laws.BitsLemmas
set_option linter.unusedVariables false
set_option linter.unusedSimpArgs false
namespace Go.Proofs.Slx
open Go
/-! ### 31. Numbers as bits -/
theorem wu64 {n : Nat} (h : n < 18446744073709551616) : IntKind.u64.wrap (n : Int) = n := by rw [IntKind.wrap_u64]; omega
theorem wu8 (n : Nat) : IntKind.u8.wrap (n : Int) = ((n % 256 : Nat) : Int) := by rw [IntKind.wrap_u8]; omega
theorem wi64 {n : Nat} (h : n < 9223372036854775808) : IntKind.i64.wrap (n : Int) = n := wrap_id ⟨by omega, by omega⟩
theorem ofInt_nat {k n : Nat} : BitVec.ofInt k (n : Int) = BitVec.ofNat k n := BitVec.ofInt_natCast k n
theorem or64 {a b : Nat} (ha : a < 18446744073709551616) (hb : b < 18446744073709551616) :
    Value.int .u64 (IntKind.u64.wrap (BitVec.ofInt IntKind.u64.bits (a : Int) ||| BitVec.ofInt IntKind.u64.bits (b : Int)).toNat) = .int .u64 ((a ||| b : Nat) : Int) := by
  have e : IntKind.u64.bits = 64 := rfl
  rw [e, ofInt_nat, ofInt_nat, BitVec.toNat_or, BitVec.toNat_ofNat, BitVec.toNat_ofNat, Nat.mod_eq_of_lt ha, Nat.mod_eq_of_lt hb,
    wu64 (Nat.or_lt_two_pow (n := 64) ha hb)]
theorem xor64 {a b : Nat} (ha : a < 18446744073709551616) (hb : b < 18446744073709551616) :
    Value.int .u64 (IntKind.u64.wrap (BitVec.ofInt IntKind.u64.bits (a : Int) ^^^ BitVec.ofInt IntKind.u64.bits (b : Int)).toNat) = .int .u64 ((a ^^^ b : Nat) : Int) := by
  have e : IntKind.u64.bits = 64 := rfl
  rw [e, ofInt_nat, ofInt_nat, BitVec.toNat_xor, BitVec.toNat_ofNat, BitVec.toNat_ofNat, Nat.mod_eq_of_lt ha, Nat.mod_eq_of_lt hb,
    wu64 (Nat.xor_lt_two_pow (n := 64) ha hb)]
theorem and8 {a b : Nat} (ha : a < 256) (hb : b < 256) :
    Value.int .u8 (IntKind.u8.wrap (BitVec.ofInt IntKind.u8.bits (a : Int) &&& BitVec.ofInt IntKind.u8.bits (b : Int)).toNat) = .int .u8 ((a &&& b : Nat) : Int) := by
  have e : IntKind.u8.bits = 8 := rfl
  have h : a &&& b < 256 := Nat.lt_of_le_of_lt Nat.and_le_left ha
  rw [e, ofInt_nat, ofInt_nat, BitVec.toNat_and, BitVec.toNat_ofNat, BitVec.toNat_ofNat, Nat.mod_eq_of_lt ha, Nat.mod_eq_of_lt hb, wu8, Nat.mod_eq_of_lt h]
theorem or8 {a b : Nat} (ha : a < 256) (hb : b < 256) :
    Value.int .u8 (IntKind.u8.wrap (BitVec.ofInt IntKind.u8.bits (a : Int) ||| BitVec.ofInt IntKind.u8.bits (b : Int)).toNat) = .int .u8 ((a ||| b : Nat) : Int) := by
  have e : IntKind.u8.bits = 8 := rfl
  have h : a ||| b < 256 := Nat.or_lt_two_pow (n := 8) ha hb
  rw [e, ofInt_nat, ofInt_nat, BitVec.toNat_or, BitVec.toNat_ofNat, BitVec.toNat_ofNat, Nat.mod_eq_of_lt ha, Nat.mod_eq_of_lt hb, wu8, Nat.mod_eq_of_lt h]
theorem conv8to64 {a : Nat} (ha : a < 256) : Value.int .u64 (IntKind.u64.wrap (a : Int)) = .int .u64 (a : Int) := by rw [wu64 (by omega)]
theorem conv64to8 {a : Nat} : Value.int .u8 (IntKind.u8.wrap (a : Int)) = .int .u8 ((a % 256 : Nat) : Int) := by rw [wu8]
theorem convI64 {a : Nat} (ha : a < 9223372036854775808) : Value.int .i64 (IntKind.i64.wrap (a : Int)) = .int .i64 (a : Int) := by rw [wi64 ha]
theorem convU64 {a : Nat} (ha : a < 18446744073709551616) : Value.int .u64 (IntKind.u64.wrap (a : Int)) = .int .u64 (a : Int) := by rw [wu64 ha]
theorem shl64 {a n : Nat} {s : Int} (hs : s.toNat = n) (hn : n ≤ 64) :
    Value.int .u64 (IntKind.u64.wrap ((a : Int) * 2 ^ (min s.toNat IntKind.u64.bits))) = .int .u64 ((a * 2 ^ n % 18446744073709551616 : Nat) : Int) := by
  have e : IntKind.u64.bits = 64 := rfl
  rw [e, hs, Nat.min_eq_left hn, IntKind.wrap_u64]
  congr 1
theorem shr64 {a n : Nat} {s : Int} (hs : s.toNat = n) (hn : n ≤ 64) :
    Value.int .u64 ((a : Int).fdiv (2 ^ (min s.toNat IntKind.u64.bits))) = .int .u64 ((a / 2 ^ n : Nat) : Int) := by
  have e : IntKind.u64.bits = 64 := rfl
  rw [e, hs, Nat.min_eq_left hn, Int.fdiv_eq_ediv_of_nonneg _ (Int.pow_nonneg (by omega))]
  congr 1
theorem mul64 {a b : Nat} : Value.int .u64 (IntKind.u64.wrap ((a : Int) * (b : Int))) = .int .u64 ((a * b % 18446744073709551616 : Nat) : Int) := by
  rw [IntKind.wrap_u64]
  congr 1
theorem u8lt (c : UInt8) : c.toNat < 256 := UInt8.toNat_lt c
/-! ### 32. The short form, the wide form, the hsh -/
/-- The short form of a number. -/
def putU (x : Nat) : List UInt8 := if h : 128 ≤ x then UInt8.ofNat (x % 256 ||| 128) :: putU (x / 128) else [UInt8.ofNat x]
termination_by x
decreasing_by omega
theorem putU_go {x : Nat} (h : 128 ≤ x) : putU x = UInt8.ofNat (x % 256 ||| 128) :: putU (x / 128) := by rw [putU]; simp [h]
theorem putU_end {x : Nat} (h : ¬128 ≤ x) : putU x = [UInt8.ofNat x] := by rw [putU]; simp [h]
/-- Reading the short form. -/
def numL : Nat → Nat → List UInt8 → Nat × Nat × Int
  | _, _, [] => (0, 0, 110)
  | i, x, c :: r =>
    if (i = 9 ∧ 1 < c.toNat) ∨ (0 < i ∧ c.toNat = 0) then (0, 0, 8)
    else if c.toNat < 128 then (x ||| (c.toNat &&& 127) * 2 ^ (7 * i) % 18446744073709551616, i + 1, 0)
    else numL (i + 1) (x ||| (c.toNat &&& 127) * 2 ^ (7 * i) % 18446744073709551616) r
def num (bs : List UInt8) : Nat × Nat × Int := numL 0 0 bs
/-- Big-endian. -/
def beL : Nat → List UInt8 → Nat
  | x, [] => x
  | x, c :: r => beL (x * 256 % 18446744073709551616 ||| c.toNat) r
def be8 (bs : List UInt8) : Nat := beL 0 bs
def putW (x : Nat) : List UInt8 := [56, 48, 40, 32, 24, 16, 8, 0].map fun s => UInt8.ofNat (x / 2 ^ s % 256)
def hashL : Nat → List UInt8 → Nat
  | h, [] => h
  | h, c :: r => hashL ((h ^^^ c.toNat) * 1099511628211 % 18446744073709551616) r
def hsh (bs : List UInt8) : Nat := hashL 14695981039346656037 bs
def putT (s : ByteArray) : List UInt8 := putU s.size ++ s.data.toList
theorem numL_range : ∀ (bs : List UInt8) (i x : Nat), x < 18446744073709551616 → (numL i x bs).1 < 18446744073709551616
  | [], i, x, h => by simp [numL]
  | c :: r, i, x, h => by
    have h1 : (c.toNat &&& 127) * 2 ^ (7 * i) % 18446744073709551616 < 18446744073709551616 := Nat.mod_lt _ (by omega)
    have h2 := Nat.or_lt_two_pow (n := 64) h h1
    simp only [numL]
    split
    · simp
    · split
      · exact h2
      · exact numL_range r _ _ h2
theorem num_range (bs : List UInt8) : (num bs).1 < 18446744073709551616 := numL_range bs 0 0 (by omega)
theorem numL_len : ∀ (bs : List UInt8) (i x : Nat), (numL i x bs).2.2 = 0 → i + 1 ≤ (numL i x bs).2.1 ∧ (numL i x bs).2.1 ≤ i + bs.length
  | [], i, x, h => by simp [numL] at h
  | c :: r, i, x, h => by
    simp only [numL] at h ⊢
    split at h
    · simp at h
    · rename_i h1
      rw [if_neg h1]
      split at h
      · rename_i h2
        rw [if_pos h2]
        simp
      · rename_i h2
        rw [if_neg h2]
        have := numL_len r _ _ h
        simp only [List.length_cons]
        omega
theorem num_len {bs : List UInt8} (h : (num bs).2.2 = 0) : 1 ≤ (num bs).2.1 ∧ (num bs).2.1 ≤ bs.length := by
  have := numL_len bs 0 0 h
  unfold num
  omega
theorem numL_small : ∀ (bs : List UInt8) (i x : Nat), i ≤ 9 → (numL i x bs).2.1 ≤ 10
  | [], i, x, h => by simp [numL]
  | c :: r, i, x, h => by
    simp only [numL]
    split
    · simp
    · rename_i h1
      split
      · simp only []; omega
      · rename_i h2
        refine numL_small r _ _ ?_
        omega
theorem beL_range : ∀ (bs : List UInt8) (x : Nat), x < 18446744073709551616 → beL x bs < 18446744073709551616
  | [], x, h => h
  | c :: r, x, h => by
    have h1 : x * 256 % 18446744073709551616 < 18446744073709551616 := Nat.mod_lt _ (by omega)
    have := u8lt c
    exact beL_range r _ (Nat.or_lt_two_pow (n := 64) h1 (by omega))
theorem be8_range (bs : List UInt8) : be8 bs < 18446744073709551616 := beL_range bs 0 (by omega)
theorem hashL_range : ∀ (bs : List UInt8) (h : Nat), h < 18446744073709551616 → hashL h bs < 18446744073709551616
  | [], h, e => e
  | c :: r, h, e => hashL_range r _ (Nat.mod_lt _ (by omega))
theorem hsh_range (bs : List UInt8) : hsh bs < 18446744073709551616 := hashL_range bs _ (by omega)
theorem putU_len : ∀ (n x : Nat), x < 128 ^ n → (putU x).length ≤ n + 1 ∧ 1 ≤ (putU x).length
  | 0, x, h => by
    have : ¬128 ≤ x := by simp at h; omega
    rw [putU_end this]; simp
  | n + 1, x, h => by
    by_cases hx : 128 ≤ x
    · rw [putU_go hx]
      have := putU_len n (x / 128) (by rw [Nat.pow_succ] at h; omega)
      simp only [List.length_cons]; omega
    · rw [putU_end hx]; simp
theorem putU_len10 {x : Nat} (h : x < 18446744073709551616) : (putU x).length ≤ 11 ∧ 1 ≤ (putU x).length := putU_len 10 x (by omega)
theorem putW_len (x : Nat) : (putW x).length = 8 := rfl
/-! ### 33. A reader of bytes: what is left, the error -/
def rUint (bs : List UInt8) (e : Int) : Nat × List UInt8 × Int :=
  if e = 0 then (if (num bs).2.2 = 0 then ((num bs).1, bs.drop (num bs).2.1, 0) else (0, bs, (num bs).2.2)) else (0, bs, e)
def rWord (bs : List UInt8) (e : Int) : Nat × List UInt8 × Int :=
  if e = 0 then (if bs.length < 8 then (0, bs, 110) else (be8 (bs.take 8), bs.drop 8, 0)) else (0, bs, e)
def rText (most : Nat) (bs : List UInt8) (e : Int) : List UInt8 × List UInt8 × Int :=
  if e = 0 then
    (if (num bs).2.2 = 0 then
      (if most < (num bs).1 then ([], bs, 3)
      else if bs.length - (num bs).2.1 < (num bs).1 then ([], bs, 110)
      else ((bs.drop (num bs).2.1).take (num bs).1, (bs.drop (num bs).2.1).drop (num bs).1, 0))
    else ([], bs, (num bs).2.2))
  else ([], bs, e)
def rEnd (bs : List UInt8) (e : Int) : Int := if e = 0 then (if bs.length = 0 then 0 else 111) else e
def rowR (a : Option Addr) (vs : List Value) : Hp := fun h => RowH h a vs
/-- A reader. -/
def rdrR (b : Nat) (bs : List UInt8) (e : Int) : Hp := fun h => ∃ a c, bs.length ≤ c ∧ c ≤ 9223372036854775807 ∧ bs.length ≤ 140737488355328 ∧ all [pt b (.cells #[.bool true, .slice a bs.length c, .int .i64 e] 134), rowR a (bcells bs)] h
theorem rdrR_open {b : Nat} {bs : List UInt8} {e : Int} {w : World} {R : List Hp} (h : Sat w (rdrR b bs e :: R)) :
    ∃ a c, bs.length ≤ c ∧ c ≤ 9223372036854775807 ∧ bs.length ≤ 140737488355328 ∧ Sat w (pt b (.cells #[.bool true, .slice a bs.length c, .int .i64 e] 134) :: rowR a (bcells bs) :: R) := by
  obtain ⟨h1, h2, d, s1, s2, ⟨a, c, k1, k2, k3, x⟩, r⟩ := h
  exact ⟨a, c, k1, k2, k3, Sat.join ⟨h1, h2, d, s1, s2, x, r⟩⟩
theorem rdrR_close {b : Nat} {bs : List UInt8} {e : Int} {a : Option Addr} {c : Nat} {w : World} {R : List Hp} (k1 : bs.length ≤ c) (k2 : c ≤ 9223372036854775807) (k3 : bs.length ≤ 140737488355328)
    (h : Sat w (pt b (.cells #[.bool true, .slice a bs.length c, .int .i64 e] 134) :: rowR a (bcells bs) :: R)) : Sat w (rdrR b bs e :: R) := by
  obtain ⟨h1, h2, d, s1, s2, x, r⟩ := Sat.part (L := [_, _]) h
  exact ⟨h1, h2, d, s1, s2, ⟨a, c, k1, k2, k3, x⟩, r⟩
theorem rdrR_take {b : Nat} {bs : List UInt8} {e : Int} {a : Option Addr} {c : Nat} {w : World} {R : List Hp} (n : Nat) (hn : n ≤ bs.length) (k1 : bs.length ≤ c) (k2 : c ≤ 9223372036854775807) (k3 : bs.length ≤ 140737488355328)
    (h : Sat w (pt b (.cells #[.bool true, .slice (adv a n 1 c) (bs.length - n) (c - n), .int .i64 e] 134) :: rowR a (bcells bs) :: R)) : Sat w (rdrR b (bs.drop n) e :: R) := by
  refine rdrR_close (a := adv a n 1 c) (c := c - n) (by simp; omega) (by omega) (by simp; omega) ?_
  rw [List.length_drop]
  refine h.swap.head (fun g x => ?_) |>.swap
  have := RowH.drop x n 1 c (by simp [bcells]; omega)
  rw [Nat.mul_one, ← bcells_drop] at this
  exact this
end Go.Proofs.Slx
namespace Go.Proofs.Slx
open Go
theorem own_rowR {E sz : Nat} {a : Option Addr} {n c : Nat} {vs : List Value} : ∀ g, OwnS E sz (.slice a n c) vs g → rowR a vs g := fun g x => by
  obtain ⟨a', _, _, e, _, _, _, r⟩ := ownS_row x
  cases e
  exact r
theorem own_len {E : Nat} {a : Option Addr} {n c : Nat} {bs : List UInt8} {w : World} {L : List Hp} (i : Nat) (h : Sat w L) (hL : L[i]? = some (OwnS E 1 (.slice a n c) (bcells bs))) : n = bs.length ∧ bs.length ≤ c ∧ c ≤ 9223372036854775807 := by
  obtain ⟨a', n', c', e, hl, hc, hm, _⟩ := Sat.ownRow i h hL
  cases e
  rw [bcells_len] at hl
  omega
theorem bcells_snoc (s : List UInt8) (c : UInt8) : bcells (s ++ [c]) = bcells s ++ [.int .u8 c.toNat] := by simp [bcells]
theorem bcells_get {bs : List UInt8} {i : Nat} {c : UInt8} (h : bs[i]? = some c) : (bcells bs)[i]? = some (.int .u8 c.toNat) := by simp [bcells, h]
theorem u8v {a : Nat} : Value.int .u8 (IntKind.u8.wrap (a : Int)) = .int .u8 ((UInt8.ofNat (a % 256)).toNat : Int) := by rw [wu8, UInt8.toNat_ofNat', Nat.mod_mod]
theorem u8o {a : Nat} (h : a < 256) : Value.int .u8 (IntKind.u8.wrap (a : Int)) = .int .u8 ((UInt8.ofNat a).toNat : Int) := by rw [wu8, UInt8.toNat_ofNat']
theorem or8u {a : Nat} (ha : a < 256) :
    Value.int .u8 (IntKind.u8.wrap (BitVec.ofInt IntKind.u8.bits (a : Int) ||| BitVec.ofInt IntKind.u8.bits (128 : Int)).toNat) = .int .u8 ((UInt8.ofNat (a ||| 128)).toNat : Int) := by
  have := or8 (a := a) (b := 128) ha (by omega)
  rw [show (((128 : Nat)) : Int) = 128 from rfl] at this
  rw [this, UInt8.toNat_ofNat', Nat.mod_eq_of_lt (Nat.or_lt_two_pow (n := 8) ha (by omega))]
theorem drop_cons {α : Type} {l : List α} {i : Nat} {c : α} (h : l[i]? = some c) : l.drop i = c :: l.drop (i + 1) := by
  obtain ⟨hi, e⟩ := List.getElem?_eq_some_iff.1 h
  rw [List.drop_eq_getElem_cons hi, e]
theorem numL_bad {i x : Nat} {bs : List UInt8} {c : UInt8} (hc : bs[i]? = some c) (h : (i = 9 ∧ 1 < c.toNat) ∨ (0 < i ∧ c.toNat = 0)) : numL i x (bs.drop i) = (0, 0, 8) := by
  rw [drop_cons hc]; simp only [numL, if_pos h]
theorem numL_end {i x : Nat} {bs : List UInt8} {c : UInt8} (hc : bs[i]? = some c) (h : ¬((i = 9 ∧ 1 < c.toNat) ∨ (0 < i ∧ c.toNat = 0))) (h2 : c.toNat < 128) : numL i x (bs.drop i) = (x ||| (c.toNat &&& 127) * 2 ^ (7 * i) % 18446744073709551616, i + 1, 0) := by
  rw [drop_cons hc]; simp only [numL, if_neg h, if_pos h2]
theorem numL_go {i x : Nat} {bs : List UInt8} {c : UInt8} (hc : bs[i]? = some c) (h : ¬((i = 9 ∧ 1 < c.toNat) ∨ (0 < i ∧ c.toNat = 0))) (h2 : ¬c.toNat < 128) : numL i x (bs.drop i) = numL (i + 1) (x ||| (c.toNat &&& 127) * 2 ^ (7 * i) % 18446744073709551616) (bs.drop (i + 1)) := by
  rw [drop_cons hc]; simp only [numL, if_neg h, if_neg h2]
theorem numL_out {i x : Nat} {bs : List UInt8} (h : bs.length ≤ i) : numL i x (bs.drop i) = (0, 0, 110) := by
  rw [List.drop_eq_nil_of_le h]; rfl
end Go.Proofs.Slx
namespace Go.Proofs.Slx
open Go
theorem rowR_drop {a : Option Addr} {bs : List UInt8} {c : Nat} (n : Nat) (hc : bs.length ≤ c) : ∀ g, rowR a (bcells bs) g → rowR (adv a n 1 c) (bcells (bs.drop n)) g := fun g x => by
  have := RowH.drop x n 1 c (by simp [bcells]; omega)
  rw [Nat.mul_one, ← bcells_drop] at this
  exact this
theorem rdrR_take2 {b : Nat} {bs : List UInt8} {e : Int} {a : Option Addr} {c : Nat} {w : World} {R : List Hp} (n m : Nat) (hn : n ≤ bs.length) (hm : m ≤ bs.length - n) (k1 : bs.length ≤ c) (k2 : c ≤ 9223372036854775807) (k3 : bs.length ≤ 140737488355328)
    (h : Sat w (pt b (.cells #[.bool true, .slice (adv (adv a n 1 c) m 1 (c - n)) (bs.length - n - m) (c - n - m), .int .i64 e] 134) :: rowR a (bcells bs) :: R)) : Sat w (rdrR b ((bs.drop n).drop m) e :: R) := by
  refine rdrR_take (a := adv a n 1 c) (c := c - n) m (by simp; omega) (by simp; omega) (by omega) (by simp; omega) ?_
  rw [List.length_drop]
  exact (h.swap.head (rowR_drop n k1)).swap
end Go.Proofs.Slx
namespace Go.Proofs.Slx
theorem putW_at {x k : Nat} (h : k < 8) : (putW x)[k]? = some (UInt8.ofNat (x / 2 ^ (56 - 8 * k) % 256)) := by
  match k, h with
  | 0, _ | 1, _ | 2, _ | 3, _ | 4, _ | 5, _ | 6, _ | 7, _ => rfl
end Go.Proofs.Slx
