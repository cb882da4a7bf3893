import Derived.Test.YtmhpgdpegneejaaDoorRs1
import Derived.Test.YtmhpgdpegneejaaDoorSx2
import Derived.KernelRfl
set_option linter.unusedVariables false
set_option linter.unusedSimpArgs false
namespace Go.Proofs.YtmhpgdpegneejaaDoor
open Go Go.Proofs Go.Proofs.Slx
theorem R48 : RefT Tryd.prog 48 9 46 .u64 := ⟨by kernel_rfl, by kernel_rfl, by kernel_rfl, by kernel_rfl, Tryd.underlying9, Tryd.underlying46⟩
theorem refs_eq {p q : ByteArray × Nat} (h : (p.1, (p.2 : Int)) = (q.1, (q.2 : Int))) : p = q := by
  obtain ⟨a, b⟩ := p
  obtain ⟨c, d⟩ := q
  simp only [Prod.mk.injEq] at h ⊢
  exact ⟨h.1, by omega⟩
def trunc (s : ByteArray) : ByteArray := s.extract 0 (min s.size 250)
def cutR (l : Ids) : Ids := l.map fun c => (trunc c.1, c.2)
def cutL (l : Ids) : Ids := cutR (l.take 80)
theorem cutR_snoc (l : Ids) (c : ByteArray × Nat) : cutR (l ++ [c]) = cutR l ++ [(trunc c.1, c.2)] := by simp [cutR]
theorem trunc_size (s : ByteArray) : (trunc s).size ≤ 250 := by
  unfold trunc
  rw [ByteArray.size_extract]
  omega
theorem cutL_len (l : Ids) : (cutL l).length ≤ 80 := by simp [cutL, cutR]; omega
theorem cutL_mem {l : Ids} {x : ByteArray × Nat} (h : x ∈ cutL l) : x.1.size ≤ 250 ∧ ∃ c, c ∈ l ∧ x = (trunc c.1, c.2) := by
  simp only [cutL, cutR, List.mem_map] at h
  obtain ⟨c, hc, rfl⟩ := h
  exact ⟨trunc_size _, c, List.mem_of_mem_take hc, rfl⟩
theorem rcells_app (l : Ids) (s : ByteArray) (n : Nat) : rcells l ++ [.string s, .int .u64 (n : Int)] = rcells (l ++ [(s, n)]) := (rcells_snoc l (s, n)).symm
theorem view_len (I : Ids) : (view I).length = (sortS (keys I)).length := by simp [view]
theorem view_at {I : Ids} {i : Nat} {k : ByteArray} (h : (sortS (keys I))[i]? = some k) : (view I)[i]? = some (k, (kget I k).getD 0) := by simp [view, h]
def rbox (b : Nat) (l : Ids) : Hp := fun g => ∃ a n c, all [pt b (.cells #[.slice a n c] 38), OwnS 48 2 (.slice a n c) (rcells l)] g
theorem rbox_open {b : Nat} {l : Ids} {w : World} {R : List Hp} (h : Sat w (rbox b l :: R)) : ∃ a c, Sat w (pt b (.cells #[.slice a (List.length (α := ByteArray × Nat) l) c] 38) :: OwnS 48 2 (.slice a l.length c) (rcells l) :: R) := by
  obtain ⟨h1, h2, d, s1, s2, ⟨a, n, c, x⟩, r⟩ := h
  have h := Sat.join (w := w) ⟨h1, h2, d, s1, s2, x, r⟩
  obtain ⟨a', n', c', e, hl, _⟩ := Sat.ownRow 1 h rfl
  cases e
  rw [rcells_len] at hl
  obtain rfl : n = l.length := by omega
  exact ⟨a, c, h⟩
theorem rbox_close {b n c : Nat} {a : Option Addr} {l : Ids} {w : World} {R : List Hp} (h : Sat w (pt b (.cells #[.slice a n c] 38) :: OwnS 48 2 (.slice a n c) (rcells l) :: R)) : Sat w (rbox b l :: R) := by
  obtain ⟨h1, h2, d, s1, s2, x, r⟩ := Sat.part (L := [_, _]) h
  exact ⟨h1, h2, d, s1, s2, ⟨a, n, c, x⟩, r⟩
theorem sat_false {w : World} {R : List Hp} (h : Sat w (pureR False :: R)) : False := sat_pureR h
theorem take_eq_succ {α : Type} {x y : List α} {i : Nat} {c d : α} (h : x.take i = y.take i) (h1 : x[i]? = some c) (h2 : y[i]? = some d) (e : c = d) : x.take (i + 1) = y.take (i + 1) := by
  rw [List.take_add_one, List.take_add_one, h1, h2, h, e]
end Go.Proofs.YtmhpgdpegneejaaDoor
