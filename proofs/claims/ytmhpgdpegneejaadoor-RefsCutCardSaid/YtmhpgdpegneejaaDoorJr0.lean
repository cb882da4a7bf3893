import Derived.Test.YtmhpgdpegneejaaDoorOc0
import Derived.Test.YtmhpgdpegneejaaDoorSx1
set_option linter.unusedVariables false
set_option linter.unusedSimpArgs false
namespace Go.Proofs.YtmhpgdpegneejaaDoor
open Go Go.Proofs Go.Proofs.Slx
/-! ### The journal -/
structure JrnV where
  recs : List (List UInt8)
  size : Nat
  cut : Bool
/-- The places of the payloads. -/
def pcs : Nat → List (List UInt8) → List Value
  | _, [] => []
  | n, r :: rs => .int .i64 (n : Nat) :: .int .i64 ((n + r.length : Nat) : Int) :: pcs (n + r.length) rs
theorem pcs_len : ∀ (rs : List (List UInt8)) (n : Nat), (pcs n rs).length = rs.length * 2
  | [], n => rfl
  | r :: rs, n => by simp only [pcs, List.length_cons, pcs_len rs]; omega
theorem pcs_snoc : ∀ (rs : List (List UInt8)) (n : Nat) (r : List UInt8), pcs n (rs ++ [r]) = pcs n rs ++ [.int .i64 ((n + rs.flatten.length : Nat) : Int), .int .i64 ((n + rs.flatten.length + r.length : Nat) : Int)]
  | [], n, r => by simp [pcs]
  | q :: rs, n, r => by
    simp only [List.cons_append, pcs, pcs_snoc rs, List.flatten_cons, List.length_append]
    simp only [Nat.add_assoc]
theorem pcs_at : ∀ (rs : List (List UInt8)) (n k : Nat) (r : List UInt8), rs[k]? = some r → (pcs n rs)[k * 2]? = some (.int .i64 ((n + (rs.take k).flatten.length : Nat) : Int)) ∧ (pcs n rs)[k * 2 + 1]? = some (.int .i64 ((n + (rs.take k).flatten.length + r.length : Nat) : Int))
  | [], n, k, r, h => by simp at h
  | q :: rs, n, 0, r, h => by simp at h; subst h; simp [pcs]
  | q :: rs, n, k + 1, r, h => by
    have := pcs_at rs (n + q.length) k r (by simpa using h)
    simp only [pcs, show (k + 1) * 2 = k * 2 + 2 by omega, show k * 2 + 2 + 1 = (k * 2 + 1) + 2 by omega, List.getElem?_cons_succ, List.take_succ_cons, List.flatten_cons, List.length_append]
    rw [show n + (q.length + (List.take k rs).flatten.length) = n + q.length + (List.take k rs).flatten.length by omega]
    exact this
theorem flat_at : ∀ (rs : List (List UInt8)) (k : Nat) (r : List UInt8), rs[k]? = some r → (rs.take k).flatten.length + r.length ≤ rs.flatten.length ∧ (rs.flatten.drop (rs.take k).flatten.length).take r.length = r
  | [], k, r, h => by simp at h
  | q :: rs, 0, r, h => by simp at h; subst h; simp
  | q :: rs, k + 1, r, h => by
    obtain ⟨h1, h2⟩ := flat_at rs k r (by simpa using h)
    simp only [List.take_succ_cons, List.flatten_cons, List.length_append]
    refine ⟨by omega, ?_⟩
    rw [← List.drop_drop, List.drop_left]
    exact h2
theorem cutL_two {C : Array Value} {o : Nat} {v u : Value} (h1 : C[o]? = some v) (h2 : C[o + 1]? = some u) : cutL C o 2 = some [v, u] := by
  simp [cutL, h1, h2]
theorem pcs_snoc2 (rs : List (List UInt8)) (p : List UInt8) : pcs 0 rs ++ [.int .i64 (rs.flatten.length : Int), .int .i64 ((rs.flatten ++ p).length : Int)] = pcs 0 (rs ++ [p]) := by
  rw [pcs_snoc]; simp
theorem flat_snoc (rs : List (List UInt8)) (p : List UInt8) : (rs ++ [p]).flatten = rs.flatten ++ p := by simp
theorem sat_part1 {w : World} {A : Hp} {L R : List Hp} (h : Sat w (A :: (L ++ R))) : Sat w (A :: all L :: R) := SatH.cons_mono (fun _ x => SatH.part x) h
theorem bstr_size (p : List UInt8) : (bstr p).size = p.length := by simp [bstr, ByteArray.size]
theorem bstr_list (p : List UInt8) : (bstr p).data.toList = p := by simp [bstr]
/-- A record's bytes. -/
def recB (p : List UInt8) : List UInt8 := putT (bstr p) ++ putW (hsh p)
def jrnR (b d : Nat) (file : ByteArray) (J : JrnV) : Hp := fun h => ∃ va vp, all [pt b (.cells #[.pointer (some ⟨d, 0, none⟩), .string file, va, vp, .int .i64 J.size, .bool J.cut] 117), OwnS 5 1 va (bcells J.recs.flatten), OwnS 139 2 vp (pcs 0 J.recs)] h
theorem jrnR_open {b d : Nat} {file : ByteArray} {J : JrnV} {w : World} {R : List Hp} (h : Sat w (jrnR b d file J :: R)) :
    ∃ aa ca ap cp, J.recs.flatten.length ≤ ca ∧ ca ≤ 9223372036854775807 ∧ J.recs.length ≤ cp ∧ cp ≤ 9223372036854775807 ∧ Sat w (pt b (.cells #[.pointer (some ⟨d, 0, none⟩), .string file, .slice aa J.recs.flatten.length ca, .slice ap J.recs.length cp, .int .i64 J.size, .bool J.cut] 117) :: OwnS 5 1 (.slice aa J.recs.flatten.length ca) (bcells J.recs.flatten) :: OwnS 139 2 (.slice ap J.recs.length cp) (pcs 0 J.recs) :: R) := by
  obtain ⟨h1, h2, d', s1, s2, ⟨va, vp, x⟩, r⟩ := h
  have h := Sat.join (w := w) ⟨h1, h2, d', s1, s2, x, r⟩
  obtain ⟨aa, na, ca, ea, hla, hca, hma, _⟩ := Sat.ownRow 1 h rfl
  obtain ⟨ap, np, cp, ep, hlp, hcp, hmp, _⟩ := Sat.ownRow 2 h rfl
  rw [bcells_len] at hla
  rw [pcs_len] at hlp
  obtain rfl : na = J.recs.flatten.length := by omega
  obtain rfl : np = J.recs.length := by omega
  subst ea ep
  exact ⟨aa, ca, ap, cp, hca, hma, hcp, hmp, h⟩
theorem jrnR_close {b d : Nat} {file : ByteArray} {J : JrnV} {va vp : Value} {w : World} {R : List Hp}
    (h : Sat w (pt b (.cells #[.pointer (some ⟨d, 0, none⟩), .string file, va, vp, .int .i64 J.size, .bool J.cut] 117) :: OwnS 5 1 va (bcells J.recs.flatten) :: OwnS 139 2 vp (pcs 0 J.recs) :: R)) : Sat w (jrnR b d file J :: R) := by
  obtain ⟨h1, h2, d', s1, s2, x, r⟩ := Sat.part (L := [_, _, _]) h
  exact ⟨h1, h2, d', s1, s2, ⟨va, vp, x⟩, r⟩
def JrnV.append (J : JrnV) (D : DiskV) (file : ByteArray) (p : List UInt8) : JrnV × DiskV × Int :=
  if J.cut then (J, D, 6) else if 262144 < p.length then (J, D, 3)
  else if (D.append file (recB p)).2 = 0 then ({ J with recs := J.recs ++ [p], size := J.size + (recB p).length }, (D.append file (recB p)).1, 0)
  else ({ J with cut := decide ((D.append file (recB p)).2 = 6) }, (D.append file (recB p)).1, (D.append file (recB p)).2)
/-- What the bytes of a file say: the payloads, how many bytes they have, whether the tail is wrong. -/
def jparse (bs : List UInt8) : List (List UInt8) × Nat × Bool :=
  if hb : bs.length = 0 then ([], 0, false)
  else
    let t := rText 262144 bs 0
    let x := rWord t.2.1 t.2.2
    if x.2.2 = 110 then ([], 0, false)
    else if he : x.2.2 ≠ 0 ∨ x.1 ≠ hsh t.1 ∨ bs.length ≤ x.2.1.length then ([], 0, true)
    else (t.1 :: (jparse x.2.1).1, bs.length - x.2.1.length + (jparse x.2.1).2.1, (jparse x.2.1).2.2)
termination_by bs.length
decreasing_by
  all_goals exact Nat.lt_of_not_le (fun q => he (.inr (.inr q)))
theorem recB_len {p : List UInt8} (h : p.length ≤ 100000000) : (recB p).length ≤ p.length + 19 := by
  have := putU_len10 (x := p.length) (by omega)
  simp only [recB, putT, List.length_append, putW_len, bstr_size, bstr_list]
  omega
def jtrunc (D : DiskV) (file : ByteArray) : DiskV × Int :=
  if (jparse ((kget D.files file).getD [])).2.1 < ((kget D.files file).getD []).length then D.truncate file (jparse ((kget D.files file).getD [])).2.1 else (D, 0)
theorem rText_len {m : Nat} {bs : List UInt8} (h : (rText m bs 0).2.2 = 0) : (rText m bs 0).2.1.length + 1 + (rText m bs 0).1.length ≤ bs.length := by
  simp only [rText, if_true] at h ⊢
  by_cases h1 : (num bs).2.2 = 0
  · have := num_len h1
    simp only [if_pos h1] at h ⊢
    by_cases h2 : m < (num bs).1
    · simp [if_pos h2] at h
    · simp only [if_neg h2] at h ⊢
      by_cases h3 : bs.length - (num bs).2.1 < (num bs).1
      · simp [if_pos h3] at h
      · simp only [if_neg h3, List.length_drop, List.length_take] at h ⊢
        omega
  · simp only [if_neg h1] at h
    exact absurd h h1
theorem rText_le (m : Nat) (bs : List UInt8) (e : Int) : (rText m bs e).1.length ≤ bs.length ∧ (rText m bs e).2.1.length ≤ bs.length := by
  simp only [rText]
  split
  · split
    · split
      · simp
      · split
        · simp
        · simp only [List.length_drop, List.length_take]; omega
    · simp
  · simp
theorem rWord_le (bs : List UInt8) (e : Int) : (rWord bs e).2.1.length ≤ bs.length := by
  simp only [rWord]
  split
  · split
    · simp
    · simp
  · simp
theorem rWord_len {bs : List UInt8} {e : Int} (h : (rWord bs e).2.2 = 0) : e = 0 ∧ (rWord bs e).2.1.length + 8 = bs.length := by
  simp only [rWord] at h ⊢
  by_cases h1 : e = 0
  · simp only [if_pos h1] at h ⊢
    by_cases h2 : bs.length < 8
    · simp [if_pos h2] at h
    · simp only [if_neg h2, List.length_drop]
      omega
  · simp only [if_neg h1] at h
    exact absurd h h1
theorem jparse_nil : jparse [] = ([], 0, false) := by rw [jparse]; rfl
theorem jparse_short {bs : List UInt8} (h0 : bs.length ≠ 0) (h : (rWord (rText 262144 bs 0).2.1 (rText 262144 bs 0).2.2).2.2 = 110) : jparse bs = ([], 0, false) := by
  rw [jparse, dif_neg h0]; simp only [h, if_true]
theorem jparse_wrong {bs : List UInt8} (h0 : bs.length ≠ 0) (h1 : ¬(rWord (rText 262144 bs 0).2.1 (rText 262144 bs 0).2.2).2.2 = 110)
    (h : (rWord (rText 262144 bs 0).2.1 (rText 262144 bs 0).2.2).2.2 ≠ 0 ∨ (rWord (rText 262144 bs 0).2.1 (rText 262144 bs 0).2.2).1 ≠ hsh (rText 262144 bs 0).1) : jparse bs = ([], 0, true) := by
  rw [jparse, dif_neg h0]
  simp only [if_neg h1]
  rw [dif_pos (by rcases h with h | h; exact .inl h; exact .inr (.inl h))]
theorem jparse_go {bs : List UInt8} (h : (rWord (rText 262144 bs 0).2.1 (rText 262144 bs 0).2.2).2.2 = 0) (hh : (rWord (rText 262144 bs 0).2.1 (rText 262144 bs 0).2.2).1 = hsh (rText 262144 bs 0).1) :
    jparse bs = ((rText 262144 bs 0).1 :: (jparse (rWord (rText 262144 bs 0).2.1 (rText 262144 bs 0).2.2).2.1).1, bs.length - (rWord (rText 262144 bs 0).2.1 (rText 262144 bs 0).2.2).2.1.length + (jparse (rWord (rText 262144 bs 0).2.1 (rText 262144 bs 0).2.2).2.1).2.1, (jparse (rWord (rText 262144 bs 0).2.1 (rText 262144 bs 0).2.2).2.1).2.2) := by
  obtain ⟨e0, hl⟩ := rWord_len h
  have ht := rText_len e0
  rw [jparse, dif_neg (by omega)]
  simp only [if_neg (show ¬(rWord (rText 262144 bs 0).2.1 (rText 262144 bs 0).2.2).2.2 = 110 by rw [h]; decide)]
  rw [dif_neg (by rintro (q | q | q); exact q h; exact q hh; omega)]
def nmRefs : ByteArray := ⟨#[114, 101, 102, 115]⟩
end Go.Proofs.YtmhpgdpegneejaaDoor
