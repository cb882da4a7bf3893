import Derived.Test.YtmhpgdpegneejaaDoorDd
import Derived.Deep.Slices
import Derived.ChangeSame
set_option maxRecDepth 100000
set_option linter.unusedVariables false
set_option linter.unusedSimpArgs false
namespace Go.Proofs.YtmhpgdpegneejaaDoor
open Go Go.Proofs Go.Proofs.Slx Go.ChangeShapes Go.WideShapes Go.Deep
theorem ce34 : Tryd.prog.cellsOf 34 = 5 := by kernel_rfl
theorem ce3 : Tryd.prog.cellsOf 3 = 1 := by kernel_rfl
theorem ce9 : Tryd.prog.cellsOf 9 = 1 := by kernel_rfl
theorem ce32 : Tryd.prog.cellsOf 32 = 1 := by kernel_rfl
theorem by5 : Tryd.prog.bytesOf 5 = 1 := by kernel_rfl
theorem ce5 : Tryd.prog.cellsOf 5 = 1 := by kernel_rfl
theorem cell_block {w : World} {a : Addr} {v : Value} (h : w.cell? (a.add 0) = some v) : ∃ b o C E fr, a = ⟨b, o, none⟩ ∧ w.heap[b]? = some (.cells C E fr) := by
  obtain ⟨b, o, sp⟩ := a
  have e0 : (⟨b, o, sp⟩ : Addr).add 0 = ⟨b, o, sp⟩ := rfl
  rw [e0] at h
  simp only [World.cell?] at h
  split at h
  · rename_i C E fr hh
    cases sp with
    | none => exact ⟨b, o, C, E, fr, rfl, hh⟩
    | some k => simp at h
  · cases h
def u8of : Value → UInt8
  | .int _ k => UInt8.ofNat k.toNat
  | _ => 0
section
variable {H : Type} {enc : TypeId × Value → H} {w : World} {spare : Nat → Bool} {held : Bool}
/-- The bytes of a slice that came in. -/
theorem open_u8s {fuel : Nat} {cs : List Value} {x : DataW H × List MemPlace} (h : DataW.trod enc Tryd.prog w 0 spare held fuel 32 cs = some x) (hw : ∀ n, n ∈ x.1.weights Tryd.prog 32 → n ≤ 140737488351232) :
    ∃ a c bs, cs = [.slice a (List.length (α := UInt8) bs) c] ∧ bs.length ≤ c ∧ c ≤ maxLen ∧ bs.length ≤ 140737488351232 ∧ RowW w a (bcells bs) := by
  rcases open_slice1 Tryd.underlying32 ce5 h with ⟨rfl, rfl⟩ | ⟨a, len, cap, m, n, V, D, Pl, rfl, hb, hl, hm, hmm, rfl, hx⟩
  · exact ⟨none, 0, [], rfl, Nat.le_refl _, Nat.zero_le _, Nat.zero_le _, .inl rfl⟩
  · have hlm : len ≤ m := by rw [hmm]; split <;> omega
    have hV : ∀ i, i < len → V i = .int .u8 (u8of (V i)).toNat := fun i hi => by
      obtain ⟨_, ht⟩ := hx i (by omega)
      obtain ⟨k, e, _, hw⟩ := DataW.trod_int Tryd.underlying5 ht
      simp only [List.cons.injEq, and_true] at e
      rw [e]
      simp only [u8of, Lit.wf, Bool.and_eq_true, decide_eq_true_eq, IntKind.min, IntKind.max, IntKind.signed, IntKind.bits] at hw ⊢
      simp at hw ⊢
      omega
    refine ⟨some a, cap, (List.range len).map fun i => u8of (V i), by simp, by simpa using hl, hm, ?_, ?_⟩
    · have := hw ((((List.range len).map D).length + ((List.range (m - len)).map fun j => D (len + j)).length) * Tryd.prog.bytesOf 5) (by
        simp only [DataW.weights, Tryd.underlying32]
        exact List.mem_cons_self)
      rw [by5] at this
      simp only [List.length_map, List.length_range] at this ⊢
      omega
    by_cases h0 : len = 0
    · subst h0; exact .inl rfl
    · obtain ⟨hc0, _⟩ := hx 0 (by omega)
      obtain ⟨b, o, C, E, fr, rfl, hblk⟩ := cell_block hc0
      refine .inr ⟨b, o, C, E, fr, rfl, hblk, fun i v hv => ?_⟩
      have hi : i < len := by
        have := (List.getElem?_eq_some_iff.1 hv).1
        simpa [bcells] using this
      obtain ⟨hci, _⟩ := hx i (by omega)
      rw [addr_add, cell_at hblk] at hci
      rw [hci]
      simp [bcells, hi] at hv
      rw [← hv]
      exact congrArg some (hV i hi)
theorem i64_range {k : Int} (h : (Lit.int .i64 k).wf = true) : -9223372036854775808 ≤ k ∧ k ≤ 9223372036854775807 := by
  simp only [Lit.wf, Bool.and_eq_true, decide_eq_true_eq] at h
  have e1 : IntKind.i64.min = -9223372036854775808 := rfl
  have e2 : IntKind.i64.max = 9223372036854775807 := rfl
  rw [e1, e2] at h
  exact h
/-- One operation that came in: all but the bound on its bytes. -/
theorem open_op {fuel : Nat} {cs : List Value} {x : DataW H × List MemPlace} (h : DataW.trod enc Tryd.prog w 0 spare held fuel 34 cs = some x) (hw : ∀ n, n ∈ x.1.weights Tryd.prog 34 → n ≤ 140737488351232) :
    ∃ o : OpV, cs = ocell o ∧ o.bytes.length ≤ 140737488351232 ∧ o.bn = o.bytes.length ∧ o.bn ≤ o.bcap ∧ o.bcap ≤ maxLen ∧ o.name.size ≤ maxLen ∧ o.to.size ≤ maxLen ∧ (-9223372036854775808 ≤ o.n ∧ o.n ≤ 9223372036854775807) ∧ (-9223372036854775808 ≤ o.kind ∧ o.kind ≤ 9223372036854775807) ∧ RowW w o.ba (bcells o.bytes) := by
  obtain ⟨xs, n, _, rfl, hl, hlen, hf⟩ := DataW.trod_struct Tryd.underlying34 h
  rw [ce34] at hl
  match cs, hl with
  | [c0, c1, c2, c3, c4], _ =>
    have g0 := hf 0 _ rfl
    have g1 := hf 1 _ rfl
    have g2 := hf 2 _ rfl
    have g3 := hf 3 _ rfl
    have g4 := hf 4 _ rfl
    have hx : ∀ i, i < 5 → ∃ y, xs[i]? = some y := fun i hi => ⟨_, List.getElem?_eq_getElem (by simp at hlen; omega)⟩
    obtain ⟨y0, e0⟩ := hx 0 (by omega)
    obtain ⟨y1, e1⟩ := hx 1 (by omega)
    obtain ⟨y2, e2⟩ := hx 2 (by omega)
    obtain ⟨y3, e3⟩ := hx 3 (by omega)
    obtain ⟨y4, e4⟩ := hx 4 (by omega)
    simp only [e0, ce3, List.drop_zero, List.take_succ_cons, List.take_zero] at g0
    simp only [e1, ce9, List.drop_succ_cons, List.drop_zero, List.take_succ_cons, List.take_zero] at g1
    simp only [e2, ce9, List.drop_succ_cons, List.drop_zero, List.take_succ_cons, List.take_zero] at g2
    simp only [e3, ce3, List.drop_succ_cons, List.drop_zero, List.take_succ_cons, List.take_zero] at g3
    simp only [e4, ce32, List.drop_succ_cons, List.drop_zero, List.take_succ_cons, List.take_zero] at g4
    obtain ⟨k0, q0, _, w0⟩ := DataW.trod_int Tryd.underlying3 g0
    obtain ⟨s1, q1, _, w1⟩ := DataW.trod_string Tryd.underlying9 g1
    obtain ⟨s2, q2, _, w2⟩ := DataW.trod_string Tryd.underlying9 g2
    obtain ⟨k3, q3, _, w3⟩ := DataW.trod_int Tryd.underlying3 g3
    obtain ⟨a, c, bs, q4, w4, w5, w6, r⟩ := open_u8s g4 (fun n hn => hw n (by
      have hxs : xs = [y0, y1, y2, y3, y4] := by
        match xs, hlen with
        | [z0, z1, z2, z3, z4], _ => simp at e0 e1 e2 e3 e4; simp [e0, e1, e2, e3, e4]
      subst hxs
      simp only [DataW.weights, Tryd.underlying34, DataW.weightsEach, List.map_cons, List.map_nil, List.mem_append]
      simp [hn]))
    cases q0
    cases q1
    cases q2
    cases q3
    cases q4
    exact ⟨⟨k0, s1, s2, k3, a, bs.length, c, bs⟩, rfl, w6, rfl, w4, w5, w1, w2, i64_range w3, i64_range w0, r⟩
theorem mem_weightsAll {H : Type} {P : Program} {e : TypeId} : ∀ {l : List (DataW H)} {d : DataW H} {n : Nat}, d ∈ l → n ∈ d.weights P e → n ∈ DataW.weightsAll P e l
  | [], _, _, h, _ => by cases h
  | x :: r, d, n, h, hn => by
    simp only [DataW.weightsAll, List.mem_append]
    rcases List.mem_cons.1 h with rfl | h
    · exact .inl hn
    · exact .inr (mem_weightsAll h hn)
theorem choose_op {n : Nat} {p : Nat → OpV → Prop} (h : ∀ i, i < n → ∃ x, p i x) : ∃ f : Nat → OpV, ∀ i, i < n → p i (f i) := by
  classical
  exact ⟨fun i => if hi : i < n then Classical.choose (h i hi) else ⟨0, ByteArray.empty, ByteArray.empty, 0, none, 0, 0, []⟩, fun i hi => by
    simp only [dif_pos hi]
    exact Classical.choose_spec (h i hi)⟩
theorem ocells_at : ∀ {l : List OpV} {j : Nat} {v : Value}, (ocells l)[j]? = some v → ∃ i r o, l[i]? = some o ∧ j = i * 5 + r ∧ (ocell o)[r]? = some v
  | [], j, v, h => by simp [ocells] at h
  | q :: t, j, v, h => by
    simp only [ocells, List.flatMap_cons] at h
    by_cases hj : j < 5
    · rw [List.getElem?_append_left (by simpa [ocell] using hj)] at h
      exact ⟨0, j, q, rfl, by omega, h⟩
    · rw [List.getElem?_append_right (by simp [ocell]; omega)] at h
      obtain ⟨i, r, o, h1, h2, h3⟩ := ocells_at (l := t) (j := j - 5) (by simpa [ocells, ocell] using h)
      exact ⟨i + 1, r, o, by simpa using h1, by omega, h3⟩
/-- The script that came in: all but the bounds on its operations' bytes. -/
theorem open_ops {fuel : Nat} {cs : List Value} {x : DataW H × List MemPlace} (h : DataW.trod enc Tryd.prog w 0 spare held fuel 22 cs = some x) (hw : ∀ n, n ∈ x.1.weights Tryd.prog 22 → n ≤ 140737488351232) :
    ∃ a c ops, cs = [.slice a (List.length (α := OpV) ops) c] ∧ ops.length ≤ c ∧ c ≤ maxLen ∧ RowW w a (ocells ops) ∧
      ∀ o, o ∈ ops → o.bytes.length ≤ 140737488351232 ∧ o.bn = o.bytes.length ∧ o.bn ≤ o.bcap ∧ o.bcap ≤ maxLen ∧ o.name.size ≤ maxLen ∧ o.to.size ≤ maxLen ∧ (-9223372036854775808 ≤ o.n ∧ o.n ≤ 9223372036854775807) ∧ (-9223372036854775808 ≤ o.kind ∧ o.kind ≤ 9223372036854775807) ∧ RowW w o.ba (bcells o.bytes) := by
  rcases open_slice Tryd.underlying22 h with ⟨rfl, rfl⟩ | ⟨a, len, cap, m, n, D, Pl, rfl, hb, hl, hm, hmm, rfl, hx⟩
  · exact ⟨none, 0, [], rfl, Nat.le_refl _, Nat.zero_le _, .inl rfl, fun o ho => by cases ho⟩
  · have hlm : len ≤ m := by rw [hmm]; split <;> omega
    obtain ⟨V, hV⟩ := choose_op (n := len) (p := fun i o => w.cells? 0 (a.add (i * 5)) 5 = some (ocell o) ∧ o.bytes.length ≤ 140737488351232 ∧ o.bn = o.bytes.length ∧ o.bn ≤ o.bcap ∧ o.bcap ≤ maxLen ∧ o.name.size ≤ maxLen ∧ o.to.size ≤ maxLen ∧
        (-9223372036854775808 ≤ o.n ∧ o.n ≤ 9223372036854775807) ∧ (-9223372036854775808 ≤ o.kind ∧ o.kind ≤ 9223372036854775807) ∧ RowW w o.ba (bcells o.bytes)) (fun i hi => by
      obtain ⟨cs', h1, h2⟩ := hx i (by omega)
      rw [ce34] at h1
      obtain ⟨o, rfl, r⟩ := open_op h2 (fun n hn => hw n (by
        simp only [DataW.weights, Tryd.underlying22]
        refine List.mem_cons_of_mem _ (List.mem_append_left _ ?_)
        exact mem_weightsAll (List.mem_map.2 ⟨i, by simpa using hi, rfl⟩) hn))
      exact ⟨o, h1, r⟩)
    refine ⟨some a, cap, (List.range len).map V, by simp, by simpa using hl, hm, ?_, fun o ho => ?_⟩
    · by_cases h0 : len = 0
      · subst h0; exact .inl rfl
      · have key : ∀ i, i < len → ∀ r v, (ocell (V i))[r]? = some v → w.cell? ((a.add (i * 5)).add r) = some v := fun i hi r v hr => by
          obtain ⟨_, _, hc⟩ := World.cells?_some (hV i hi).1
          rw [hc r (by have := (List.getElem?_eq_some_iff.1 hr).1; simpa [ocell] using this)]
          exact hr
        have hc0 := key 0 (by omega) 0 _ rfl
        obtain ⟨b, o, C, E, fr, rfl, hblk⟩ := cell_block (a := a) (by simpa [Addr.add] using hc0)
        refine .inr ⟨b, o, C, E, fr, rfl, hblk, fun j v hv => ?_⟩
        obtain ⟨i, r, op, h1, rfl, h3⟩ := ocells_at hv
        have hi : i < len := by
          have := (List.getElem?_eq_some_iff.1 h1).1
          simpa using this
        have e : op = V i := by simpa [hi] using h1.symm
        subst e
        have hk := key i hi r v h3
        rw [addr_add, addr_add, cell_at hblk] at hk
        rw [show o + (i * 5 + r) = o + i * 5 + r by omega]
        exact hk
    · obtain ⟨i, hi, rfl⟩ := List.mem_map.1 ho
      exact (hV i (by simpa using hi)).2
end
end Go.Proofs.YtmhpgdpegneejaaDoor
