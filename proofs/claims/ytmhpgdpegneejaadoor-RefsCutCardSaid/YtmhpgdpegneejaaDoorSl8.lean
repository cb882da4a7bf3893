import Derived.Test.YtmhpgdpegneejaaDoorSl7
import Derived.Laws.IdiomStrings
import Derived.Laws.BytesArg
set_option linter.unusedVariables false
set_option linter.unusedSimpArgs false
namespace Go.Proofs.Slx
open Go

/-! ### 22. Bytes as a string -/
def bstr (bs : List UInt8) : ByteArray := ⟨bs.toArray⟩
theorem bstr_inj {a b : List UInt8} : bstr a = bstr b ↔ a = b := by
  constructor
  · intro h
    have := congrArg (fun x : ByteArray => x.data.toList) h
    simpa [bstr] using this
  · rintro rfl; rfl
section
variable {c : Place} {ds : List Deferred} {l : Env} {K : Env → World → Prop} {L : List Hp} {w : World} {pos : String} {af : Array Edge} {g : Option (Nat × Bool)} {x y : Operand} {d : Nat} {ty : TypeId}
theorem ef_convBS {src dst e : TypeId} (hs : c.P.underlying src = some (.slice e)) (he : c.P.underlying e = some (.int .u8)) (hd : c.P.underlying dst = some .string) {a : Option Addr} {n cap : Nat} {bs : List UInt8}
    (hx : ev l x = some (.slice a n cap)) (hn : n = bs.length) (hr : RowW w a (bcells bs)) (hdl : Nat.blt d c.n = true) (k : K ((d, .string (bstr bs)) :: l) w) : OpE c ds ⟨some d, .convert src dst x, ty, pos, af, g⟩ l w K := by
  subst hn
  refine OpE.value (v := .string (bstr bs)) (w' := w) rfl hdl (fun ρ hρ => ?_) k
  rw [Oper.semAt_eq _ _ _ (by intro c; simp)]
  have key : (convert src dst (.slice a bs.length cap)).run c.P w = .ok (.string (bstr bs)) w := by
    rcases hr with h | ⟨b, o, C, E, fr, rfl, hb, hC⟩
    · have : bs = [] := by simpa [bcells] using h
      subst this
      cases a with
      | none => exact run_convert_bytes_nil w src e hs he 0 cap dst hd
      | some a => exact run_convert_bytes_back w src dst e a cap [] hs he hd (fun j hj => by simp at hj)
    · refine run_convert_bytes_back w src dst e _ cap bs hs he hd (fun j hj => ?_)
      rw [addr_add]
      rw [cell_at hb]
      exact hC j _ (by simp [bcells, hj])
  simp [execOp, hρ _ _ hx, key]
end
end Go.Proofs.Slx
