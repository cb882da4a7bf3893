import Derived.Test.YtmhpgdpegneejaaDoorOp8
set_option maxRecDepth 100000
set_option linter.unusedVariables false
set_option linter.unusedSimpArgs false
namespace Go.Proofs.YtmhpgdpegneejaaDoor
open Go Go.Proofs Go.Proofs.Slx Go.ChangeShapes Go.WideShapes Go.Deep
section
variable {H : Type} {enc : TypeId × Value → H} {w : World} {spare : Nat → Bool} {held : Bool}
def okRow (w : World) (q : SRow) : Prop := RowW w q.a (rcells q.l) ∧ q.l.length ≤ q.c ∧ q.c ≤ 9223372036854775807 ∧ ∀ x, x ∈ q.l → x.1.size ≤ 9223372036854775807 ∧ x.2 < 18446744073709551616
theorem choose_row {n : Nat} {p : Nat → SRow → Prop} (h : ∀ i, i < n → ∃ x, p i x) : ∃ f : Nat → SRow, ∀ i, i < n → p i (f i) := by
  classical
  exact ⟨fun i => if hi : i < n then Classical.choose (h i hi) else ⟨none, 0, []⟩, fun i hi => by
    simp only [dif_pos hi]
    exact Classical.choose_spec (h i hi)⟩
theorem open_script {fuel : Nat} {cs : List Value} {x : DataW H × List MemPlace} (h : DataW.trod enc Tryd.prog w 0 spare held fuel 56 cs = some x) :
    ∃ a c S, cs = [.slice a (List.length (α := SRow) S) c] ∧ S.length ≤ c ∧ c ≤ 9223372036854775807 ∧ RowW w a (srcells S) ∧ ∀ q, q ∈ S → okRow w q := by
  have hmx : maxLen = 9223372036854775807 := rfl
  rcases open_slice1 Tryd.underlying56 ce38 h with ⟨rfl, rfl⟩ | ⟨a, len, cap, m, n, V, D, Pl, rfl, hb, hl, hm, hmm, rfl, hx⟩
  · exact ⟨none, 0, [], rfl, Nat.le_refl _, Nat.zero_le _, .inl rfl, fun o ho => by cases ho⟩
  · have hlm : len ≤ m := by rw [hmm]; split <;> omega
    obtain ⟨Q, hQ⟩ := choose_row (n := len) (p := fun i q => V i = scell9 q ∧ okRow w q) (fun i hi => by
      obtain ⟨_, h2⟩ := hx i (by omega)
      obtain ⟨b, c, l, e, g1, g2, g3, g4⟩ := open_refs h2
      simp only [List.cons.injEq, and_true] at e
      exact ⟨⟨b, c, l⟩, e, g3, g1, g2, g4⟩)
    refine ⟨some a, cap, (List.range len).map Q, by simp, by simpa using hl, by omega, ?_, fun q hq => ?_⟩
    · by_cases h0 : len = 0
      · subst h0; exact .inl rfl
      · obtain ⟨hc0, _⟩ := hx 0 (by omega)
        obtain ⟨b, o, C, E, fr, rfl, hblk⟩ := cell_block8 hc0
        refine .inr ⟨b, o, C, E, fr, rfl, hblk, fun i v hv => ?_⟩
        have hi : i < len := by
          have := (List.getElem?_eq_some_iff.1 hv).1
          simpa [srcells] using this
        obtain ⟨hci, _⟩ := hx i (by omega)
        rw [addr_add, cell_at hblk] at hci
        rw [hci, (hQ i hi).1]
        simp [srcells, hi] at hv
        rw [← hv]
    · obtain ⟨i, hi, rfl⟩ := List.mem_map.1 hq
      exact (hQ i (by simpa using hi)).2
end
end Go.Proofs.YtmhpgdpegneejaaDoor
