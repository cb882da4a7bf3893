import Derived.Test.YtmhpgdpegneejaaDoorSh1
import Derived.Test.YtmhpgdpegneejaaDoorLw1
set_option linter.unusedVariables false
namespace Go.Proofs.YtmhpgdpegneejaaDoor
open Go Go.Proofs Go.Proofs.Slx
/-- DiskDoes answers true, at whatever operations lie in the old heap. -/
theorem diskDoes {w0 : World} {a : Option Addr} {c : Nat} {ops : List OpV} (hO : RowW w0 a (ocells ops)) (hops : ∀ o, o ∈ ops → OkOp (oldR w0) o) (hc : ops.length ≤ c) (hcm : c ≤ 9223372036854775807)
    (htab : Lib.TabIs Tryd.prog w0 "internal/strconv.uint64pow10" .u64 Lib.pow10Tab) :
    FnC Tryd.prog 3 [.slice a ops.length c] w0 fun v w' => v = .bool true ∧ ∀ (i : Nat) (x : Obj), w0.heap[i]? = some x → w'.heap[i]? = some x := by
  refine FnC.mono (law_DiskDoes (O := oldR w0) (R := []) (fun g x => RowH.mono hO x) hops hc hcm (itoa_ok htab)
    (fun b D w R hl h => disk_Names hl sort_slices h) (fun b W w R hl h => ref_Names hl sort_strings h) (old_self w0)) ?_
  rintro v w ⟨rfl, h⟩
  refine ⟨rfl, fun i x e => ?_⟩
  obtain ⟨g, s, hg⟩ := SatH.get 0 h rfl
  exact s i x (hg i x e)
#print axioms diskDoes
end Go.Proofs.YtmhpgdpegneejaaDoor
