import Derived.Test.YtmhpgdpegneejaaDoorLr2
import Derived.Test.YtmhpgdpegneejaaDoorCards
import Derived.Test.YtmhpgdpegneejaaDoorTie
import Derived.WalkKit
import Derived.ProofKit
import Derived.OpenShut
import Derived.ChangeSame
import Derived.Carry
import Derived.ChangeMaps5
import Derived.Deep.DeepHandedRow
import Derived.Deep.Slices
import Derived.Lib.LaidTab
set_option maxRecDepth 100000
set_option linter.unusedVariables false
set_option linter.unusedSimpArgs false
namespace Go.Proofs.YtmhpgdpegneejaaDoor
open Go Go.Proofs Go.Proofs.Slx Go.ChangeShapes Go.WideShapes Go.ChangeAt Go.RowKit
theorem own8 : ownKnob Tryd.prog.godebug = none := by kernel_rfl
theorem laidOut8 : laidOutB Tryd.prog = true := by kernel_rfl
theorem trodAll_stays {H : Type} {enc : TypeId × Value → H} {W W' : World} {sp' : Nat → Bool} : ∀ {ts : List TypeId} {vs : List Value} {ds : List (DataW H)} {ps : List MemPlace},
    (∀ t, t ∈ ts → Tryd.prog.readableRec t = true ∧ t < Tryd.prog.types.size) → DataW.TrodAll enc Tryd.prog W 0 (fun _ => true) true ts vs ds ps → (∀ p, p ∈ ps → W.sameAt W' p) → (∀ p, p ∈ ps → sp' p.block = true) →
    DataW.TrodAll enc Tryd.prog W' 0 sp' true ts vs ds ps
  | [], vs, ds, ps, hr, h, hsame, hs => by
    obtain ⟨rfl, rfl, rfl⟩ := trodAll_nil h
    exact trodAll_mk0
  | t :: ts, vs, ds, ps, hr, h, hsame, hs => by
    obtain ⟨v, vs', d, ds', p, q, rfl, rfl, rfl, hd, hrest⟩ := trodAll_cons h
    obtain ⟨r1, r2⟩ := hr t List.mem_cons_self
    exact trodAll_cons_mk (WideElems.Trod_stays laidOut8 r1 r2 hd (fun x hx => hsame x (List.mem_append_left _ hx)) (fun x hx => hs x (List.mem_append_left _ hx)))
      (trodAll_stays (fun u hu => hr u (List.mem_cons_of_mem _ hu)) hrest (fun x hx => hsame x (List.mem_append_right _ hx)) (fun x hx => hs x (List.mem_append_right _ hx)))
theorem post_same {H : Type} {enc : TypeId × Value → H} {fn : Func} {s : ChangeSpec} {W W' : World} {args : Array Value} {ds gs : List (DataW H)} {before : List MemPlace}
    (hW : DataW.Whole enc Tryd.prog fn.params.toList s.vars false W args.toList ds gs before) (hv : s.vars = []) (hrt : fn.resultTypes = #[4])
    (hread : ∀ t, t ∈ fn.params.toList → Tryd.prog.readableRec t = true ∧ t < Tryd.prog.types.size)
    (hs : (s.fn H ds).results = [.lit (.bool true)] ∧ (s.fn H ds).args = ds ∧ (s.fn H ds).vars = [])
    (hio : io W' = io W) (hh : ∀ (i : Nat) (x : Obj), W.heap[i]? = some x → W'.heap[i]? = some x) : s.post enc Tryd.prog fn false true false false W args (.bool true) W' := by
  have hW' := hW
  obtain ⟨p, q, hA0, hV, rfl, hfz, hnd⟩ := hW
  have hA : DataW.TrodAll enc Tryd.prog W 0 (fun _ => true) true fn.params.toList args.toList ds p := hA0
  rw [hv] at hV
  obtain ⟨rfl, rfl⟩ := trodVars_none hV
  have hblk : ∀ i, i < W.heap.size → W'.heap[i]? = W.heap[i]? := fun i hi => by
    rw [Array.getElem?_eq_getElem hi]; exact hh i _ (Array.getElem?_eq_getElem hi)
  have hos : W'.os = W.os := congrArg Prod.fst hio
  have hout : W'.output = W.output := congrArg Prod.snd hio
  have hkeep : ∀ may, W.keptBut W' may := fun may => by
    refine ⟨hos, hout, fun i hi => ?_⟩
    rw [hblk i hi]
    split <;> simp_all
  have hlt : ∀ y ∈ p, y.block < W.heap.size := fun y hy => by simpa using hW'.lt y (List.mem_append_left _ hy)
  have hsame : ∀ y ∈ p, W.sameAt W' y := fun y hy => by
    have hp := hlt y hy
    cases y with
    | cell b o => exact World.cell?_of_block (w := W) (hblk b hp)
    | map b => exact hblk b hp
  obtain ⟨s1, s2, s3⟩ := hs
  refine ⟨ds, [], _, [], p, [], hW', ?_, ?_, ?_, hkeep _, fun h => by cases h⟩
  · rw [List.append_nil, s1, hrt]
    exact trodAll_cons_mk (shut_bool Tryd.underlying4 _) trodAll_mk0
  · rw [List.append_nil, s2]
    exact trodAll_stays hread hA hsame (fun y hy => by simpa using hlt y hy)
  · rw [List.append_nil, s3, hv]
    rfl
theorem maxLen8 {W : World} (h : W.ShapedOpen Tryd.prog) : ∃ m, W.cell? ⟨3, 0, none⟩ = some (.int .i64 m) := Tryd.laysM146.s1_3 W h
/-- From a law's contract to its row's. -/
theorem calls_true {H : Type} {enc : TypeId × Value → H} {f : Nat} {fn : Func} {s : ChangeSpec} {W : World} {args : Array Value} {ds gs : List (DataW H)} {before : List MemPlace}
    (hW : DataW.Whole enc Tryd.prog fn.params.toList s.vars false W args.toList ds gs before) (hv : s.vars = []) (hrt : fn.resultTypes = #[4])
    (hread : ∀ t, t ∈ fn.params.toList → Tryd.prog.readableRec t = true ∧ t < Tryd.prog.types.size)
    (hs : (s.fn H ds).results = [.lit (.bool true)] ∧ (s.fn H ds).args = ds ∧ (s.fn H ds).vars = [])
    (key : Calls Tryd.prog f args W (Ret fun v w' => io w' = io W ∧ v = .bool true ∧ Sat w' [mlR W])) : Calls Tryd.prog f args W fun e W' => ∃ v, e = .returned v ∧ s.post enc Tryd.prog fn false true false false W args v W' := by
  refine Calls.mono key fun e W' x => ?_
  cases e with
  | outgrown => exact x.elim
  | panicked ch => exact x.elim
  | returned v =>
    obtain ⟨hio, rfl, h⟩ := x
    exact ⟨.bool true, rfl, post_same hW hv hrt hread hs hio (fun i x e => mlR_end h i x e)⟩
end Go.Proofs.YtmhpgdpegneejaaDoor
