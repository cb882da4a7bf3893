import Derived.Test.YtmhpgdpegneejaaDoorCg
import Derived.Test.YtmhpgdpegneejaaDoorPl7
set_option maxRecDepth 100000
set_option linter.unusedVariables false
set_option linter.unusedSimpArgs false
namespace Go.Proofs.YtmhpgdpegneejaaDoor
open Go Go.Proofs Go.Proofs.Slx Go.ChangeShapes Go.WideShapes Go.Deep
theorem ce48 : Tryd.prog.cellsOf 48 = 2 := by kernel_rfl
theorem ce46 : Tryd.prog.cellsOf 46 = 1 := by kernel_rfl
theorem ce9' : Tryd.prog.cellsOf 9 = 1 := by kernel_rfl
theorem ce38 : Tryd.prog.cellsOf 38 = 1 := by kernel_rfl
theorem cell_block8 {w : World} {a : Addr} {v : Value} (h : w.cell? (a.add 0) = some v) : ∃ b o C E fr, a = ⟨b, o, none⟩ ∧ w.heap[b]? = some (.cells C E fr) := by
  obtain ⟨b, o, sp⟩ := a
  have e0 : (⟨b, o, sp⟩ : Addr).add 0 = ⟨b, o, sp⟩ := rfl
  rw [e0] at h
  simp only [World.cell?] at h
  split at h
  · rename_i C E fr hh
    cases sp with
    | none => exact ⟨b, o, C, E, fr, rfl, hh⟩
    | some k => simp at h
  · cases h
section
variable {H : Type} {enc : TypeId × Value → H} {w : World} {spare : Nat → Bool} {held : Bool}
def okRef (c : ByteArray × Nat) : Prop := c.1.size ≤ 9223372036854775807 ∧ c.2 < 18446744073709551616
theorem open_ref {fuel : Nat} {cs : List Value} {x : DataW H × List MemPlace} (h : DataW.trod enc Tryd.prog w 0 spare held fuel 48 cs = some x) : ∃ c : ByteArray × Nat, cs = fcell c ∧ okRef c := by
  obtain ⟨xs, n, _, rfl, hl, hlen, hf⟩ := DataW.trod_struct Tryd.underlying48 h
  rw [ce48] at hl
  match cs, hl with
  | [c0, c1], _ =>
    have g0 := hf 0 _ rfl
    have g1 := hf 1 _ rfl
    have hx : ∀ i, i < 2 → ∃ y, xs[i]? = some y := fun i hi => ⟨_, List.getElem?_eq_getElem (by simp at hlen; omega)⟩
    obtain ⟨y0, e0⟩ := hx 0 (by omega)
    obtain ⟨y1, e1⟩ := hx 1 (by omega)
    simp only [e0, ce9', List.drop_zero, List.take_succ_cons, List.take_zero] at g0
    simp only [e1, ce46, List.drop_succ_cons, List.drop_zero, List.take_succ_cons, List.take_zero] at g1
    obtain ⟨s1, q1, _, w1⟩ := DataW.trod_string Tryd.underlying9 g0
    obtain ⟨k, q2, _, w2⟩ := DataW.trod_int Tryd.underlying46 g1
    cases q1
    cases q2
    simp only [Lit.wf, Bool.and_eq_true, decide_eq_true_eq] at w2
    have hmin : IntKind.u64.min = 0 := rfl
    have hmax : IntKind.u64.max = 18446744073709551615 := rfl
    rw [hmin, hmax] at w2
    refine ⟨(s1, k.toNat), ?_, w1, by simp only []; omega⟩
    simp only [fcell]
    rw [Int.toNat_of_nonneg w2.1]
theorem choose_ref {n : Nat} {p : Nat → ByteArray × Nat → Prop} (h : ∀ i, i < n → ∃ x, p i x) : ∃ f : Nat → ByteArray × Nat, ∀ i, i < n → p i (f i) := by
  classical
  exact ⟨fun i => if hi : i < n then Classical.choose (h i hi) else (ByteArray.empty, 0), fun i hi => by
    simp only [dif_pos hi]
    exact Classical.choose_spec (h i hi)⟩
theorem rcells_find : ∀ {l : Ids} {j : Nat} {v : Value}, (rcells l)[j]? = some v → ∃ i r o, l[i]? = some o ∧ j = i * 2 + r ∧ (fcell o)[r]? = some v
  | [], j, v, h => by simp [rcells] at h
  | q :: t, j, v, h => by
    simp only [rcells, List.flatMap_cons] at h
    by_cases hj : j < 2
    · rw [List.getElem?_append_left (by simpa [fcell] using hj)] at h
      exact ⟨0, j, q, rfl, by omega, h⟩
    · rw [List.getElem?_append_right (by simp [fcell]; omega)] at h
      obtain ⟨i, r, o, h1, h2, h3⟩ := rcells_find (l := t) (j := j - 2) (by simpa [rcells, fcell] using h)
      exact ⟨i + 1, r, o, by simpa using h1, by omega, h3⟩
theorem open_refs {fuel : Nat} {cs : List Value} {x : DataW H × List MemPlace} (h : DataW.trod enc Tryd.prog w 0 spare held fuel 38 cs = some x) :
    ∃ a c l, cs = [.slice a (List.length (α := ByteArray × Nat) l) c] ∧ l.length ≤ c ∧ c ≤ 9223372036854775807 ∧ RowW w a (rcells l) ∧ ∀ o, o ∈ l → okRef o := by
  have hmx : maxLen = 9223372036854775807 := rfl
  rcases open_slice Tryd.underlying38 h with ⟨rfl, rfl⟩ | ⟨a, len, cap, m, n, D, Pl, rfl, hb, hl, hm, hmm, rfl, hx⟩
  · exact ⟨none, 0, [], rfl, Nat.le_refl _, Nat.zero_le _, .inl rfl, fun o ho => by cases ho⟩
  · have hlm : len ≤ m := by rw [hmm]; split <;> omega
    obtain ⟨V, hV⟩ := choose_ref (n := len) (p := fun i o => w.cells? 0 (a.add (i * 2)) 2 = some (fcell o) ∧ okRef o) (fun i hi => by
      obtain ⟨cs', h1, h2⟩ := hx i (by omega)
      rw [ce48] at h1
      obtain ⟨o, rfl, r⟩ := open_ref h2
      exact ⟨o, h1, r⟩)
    refine ⟨some a, cap, (List.range len).map V, by simp, by simpa using hl, by omega, ?_, fun o ho => ?_⟩
    · by_cases h0 : len = 0
      · subst h0; exact .inl rfl
      · have key : ∀ i, i < len → ∀ r v, (fcell (V i))[r]? = some v → w.cell? ((a.add (i * 2)).add r) = some v := fun i hi r v hr => by
          obtain ⟨_, _, hc⟩ := World.cells?_some (hV i hi).1
          rw [hc r (by have := (List.getElem?_eq_some_iff.1 hr).1; simpa [fcell] using this)]
          exact hr
        have hc0 := key 0 (by omega) 0 _ rfl
        obtain ⟨b, o, C, E, fr, rfl, hblk⟩ := cell_block8 (a := a) (by simpa [Addr.add] using hc0)
        refine .inr ⟨b, o, C, E, fr, rfl, hblk, fun j v hv => ?_⟩
        obtain ⟨i, r, op, h1, rfl, h3⟩ := rcells_find hv
        have hi : i < len := by
          have := (List.getElem?_eq_some_iff.1 h1).1
          simpa using this
        have e : op = V i := by simpa [hi] using h1.symm
        subst e
        have hk := key i hi r v h3
        rw [addr_add, addr_add, cell_at hblk] at hk
        rw [show o + (i * 2 + r) = o + i * 2 + r by omega]
        exact hk
    · obtain ⟨i, hi, rfl⟩ := List.mem_map.1 ho
      exact (hV i (by simpa using hi)).2
theorem slice_val8 {W : World} {base : Nat} {t e : TypeId} {v : Value} {a : Option Addr} {l c : Nat} (ht : Tryd.prog.underlying t = some (.slice e)) (h : Value.okWide Tryd.prog W .any base t v) (e9 : v.cells.toList = [.slice a l c]) : v = .slice a l c := by
  simp only [Value.okWide, ht, Cell.okWide] at h
  cases v with
  | slice a' l' c' => simpa [Value.cells] using e9
  | agg cs => simp [Cell.ok, ht] at h
  | _ => simp [Value.cells] at e9
end
end Go.Proofs.YtmhpgdpegneejaaDoor
