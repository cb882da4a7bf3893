import Derived.Test.YtmhpgdpegneejaaDoorOp0
import Derived.Test.YtmhpgdpegneejaaDoorCards
import Derived.Test.YtmhpgdpegneejaaDoorTie
import Derived.WalkKit
import Derived.ProofKit
import Derived.OpenShut
import Derived.Deep.DeepHandedRow
import Derived.Lib.LaidTab
set_option maxRecDepth 100000
set_option linter.unusedVariables false
set_option linter.unusedSimpArgs false
namespace Go.Proofs.YtmhpgdpegneejaaDoor
open Go Go.Proofs Go.Proofs.Slx Go.ChangeShapes Go.WideShapes Go.ChangeAt Go.RowKit
theorem own : ownKnob Tryd.prog.godebug = none := by kernel_rfl
/-- The one argument is a slice. -/
theorem slice_val {W : World} {base : Nat} {v : Value} {a : Option Addr} {l c : Nat} (h : Value.okWide Tryd.prog W .any base 22 v) (e : v.cells.toList = [.slice a l c]) : v = .slice a l c := by
  simp only [Value.okWide, Tryd.underlying22, Cell.okWide] at h
  cases v with
  | slice a' l' c' => simpa [Value.cells] using e
  | agg cs => simp [Cell.ok, Tryd.underlying22] at h
  | _ => simp [Value.cells] at e
theorem laid_tail {P : Program} {x : String × DataW Unit} {r : List (String × DataW Unit)} {w : World} (h : laidMet P (x :: r) w) : laidMet P r w := by
  obtain ⟨ps, ⟨g, t, cs, fuel, p, q, _, _, _, _, hr, rfl⟩, hn, hc⟩ := h
  exact ⟨q, hr, (List.nodup_append.1 hn).2.1, fun b off hm => hc b off (List.mem_append_right _ hm)⟩
theorem diskTab {W : World} (h : laidMetH Tryd.prog Rows.diskDoesRow.laid W) : Lib.TabIs Tryd.prog W "internal/strconv.uint64pow10" .u64 Lib.pow10Tab := by
  have h1 : laidMet Tryd.prog Rows.diskDoesRow.laid W := h
  have h2 : laidMet Tryd.prog [("internal/strconv.uint64pow10", Lib.tabData .u64 Lib.pow10Tab)] W := laid_tail (laid_tail h1)
  exact Lib.tabIs_of_head (g := 0) (t := 164) (e := 45) (n := 20) (by kernel_rfl) (by kernel_rfl) Tryd.underlying164 Tryd.underlying45 (by kernel_rfl) (by kernel_rfl) h2
theorem laidOut : laidOutB Tryd.prog = true := by kernel_rfl
/-- What the law gives, for every argument and every world that holds the tables. -/
theorem contract (H : Type) (enc : TypeId × Value → H) (W : World) (base : Nat) (args : Array Value) (ds gs : List (DataW H)) (before : List MemPlace)
    (hval : ∀ (j : Nat) t v, Tryd.f3.params[j]? = some t → args[j]? = some v → Value.okWide Tryd.prog W .any base t v)
    (hW : DataW.Whole enc Tryd.prog Tryd.f3.params.toList Rows.diskDoesSpec.vars false W args.toList ds gs before)
    (hw8 : (DataW.weightsEach Tryd.prog (Tryd.f3.params.toList ++ (OpenSpec.ofChange Rows.diskDoesSpec).bare.plain.varTypes Tryd.prog) (ds ++ gs)).all (· ≤ reachBytes) = true)
    (hL : laidMetH Tryd.prog Rows.diskDoesRow.laid W) :
    Calls Tryd.prog 3 args W fun e W' => ∃ v, e = .returned v ∧ Rows.diskDoesSpec.post enc Tryd.prog Tryd.f3 false true false false W args v W' := by
  have hW' := hW
  obtain ⟨p, q, hA0, hV, rfl, hfz, hnd⟩ := hW
  have hA : DataW.TrodAll enc Tryd.prog W 0 (fun _ => true) true Tryd.f3.params.toList args.toList ds p := hA0
  rw [Tryd.params3] at hA hval
  obtain ⟨v0, vs0, d0, ds0, p0, q0, hargs, rfl, rfl, h0, r0⟩ := trodAll_cons hA
  obtain ⟨rfl, rfl, rfl⟩ := trodAll_nil r0
  obtain rfl : args = #[v0] := by cases args; simp_all
  obtain ⟨rfl, rfl⟩ := trodVars_none hV
  have h0' := h0
  obtain ⟨fuel, hf⟩ := h0
  have hwt : ∀ n, n ∈ d0.weights Tryd.prog 22 → n ≤ 140737488351232 := fun n hn => by
    have := List.all_eq_true.1 hw8 n (by
      rw [Tryd.params3]
      simp only [DataW.weightsEach, List.cons_append, List.nil_append, List.mem_append]
      exact .inl hn)
    exact of_decide_eq_true this
  obtain ⟨a, c, ops, hcs, hc, hcm, hrow, hops⟩ := open_ops (x := (d0, p0)) hf hwt
  obtain rfl := slice_val (hval 0 22 v0 rfl rfl) hcs
  have hm : maxLen = 9223372036854775807 := rfl
  rw [hm] at hcm
  have key := diskDoes (w0 := W) hrow (fun o ho => by
    obtain ⟨b1, b2, b3, b4, b5, b6, b7, b8, b9⟩ := hops o ho
    rw [hm] at b4 b5 b6
    exact ⟨b2, b3, b4, b1, b5, b6, b7.1, b7.2, b8.1, b8.2, fun g x => RowH.mono b9 x⟩) hc hcm (diskTab hL)
  refine Calls.mono key fun e W' x => ?_
  cases e with
  | outgrown => exact x.elim
  | panicked ch => exact x.elim
  | returned v =>
    obtain ⟨hio, rfl, hh⟩ := x
    have hblk : ∀ i, i < W.heap.size → W'.heap[i]? = W.heap[i]? := fun i hi => by
      rw [Array.getElem?_eq_getElem hi]; exact hh i _ (Array.getElem?_eq_getElem hi)
    have hos : W'.os = W.os := congrArg Prod.fst hio
    have hout : W'.output = W.output := congrArg Prod.snd hio
    have hkeep : ∀ may, W.keptBut W' may := fun may => by
      refine ⟨hos, hout, fun i hi => ?_⟩
      rw [hblk i hi]
      split <;> simp_all
    have hlt : ∀ y ∈ p0, y.block < W.heap.size := fun y hy => by simpa using hW'.lt y (List.mem_append_left _ (List.mem_append_left _ hy))
    have hsame : ∀ y ∈ p0, W.sameAt W' y := fun y hy => by
      have hp := hlt y hy
      cases y with
      | cell b o => exact World.cell?_of_block (w := W) (hblk b hp)
      | map b => exact hblk b hp
    exact ⟨.bool true, rfl, [d0], [], _, [], _, [], hW', trodAll_cons_mk (shut_bool Tryd.underlying4 _) trodAll_mk0,
      trodAll_cons_mk (WideElems.Trod_stays laidOut (by kernel_rfl) (of_decide_eq_true (by kernel_rfl)) h0' hsame (fun y hy => by simpa using hlt y hy)) trodAll_mk0, rfl, hkeep _, fun h => by cases h⟩
end Go.Proofs.YtmhpgdpegneejaaDoor
