import Derived.Test.YtmhpgdpegneejaaDoorSx1
import Derived.Laws.StructEq
set_option linter.unusedVariables false
set_option linter.unusedSimpArgs false
namespace Go.Proofs.Slx
open Go
/-! ### 43. A struct of a string and a number, compared -/
def refT (P : Program) (t ts tn : TypeId) : Bool × Bool × List (Bool × TypeId × Nat) × Option TypeDesc :=
  (P.stoodInHeld t, P.eqGuardType P.depth t, (P.fieldsOf t).toList.map fun f => (f.name == "_", f.type, f.offset), P.underlying t)
structure RefT (P : Program) (t ts tn : TypeId) (k : IntKind) : Prop where
  held : P.stoodInHeld t = false
  guard : P.eqGuardType P.depth t = false
  und : P.underlying t = some (.struct (P.fieldsOf t))
  fields : (P.fieldsOf t).toList.map (fun f => (f.name == "_", f.type, f.offset)) = [(false, ts, 0), (false, tn, 1)]
  str : P.underlying ts = some .string
  num : P.underlying tn = some (.int k)
section
variable {P : Program} {l : Env} {dst : Option Nat} {ty : TypeId} {pos : String} {af : Array Edge} {g : Option (Nat × Bool)} {x y : Operand}
theorem ref_equal {t ts tn : TypeId} {k : IntKind} (h : RefT P t ts tn k) (a b : ByteArray) (m n : Int) (w : World) (d : Nat) :
    (Op.equalIn (d + 2) t (.agg #[.string a, .int k m]) (.agg #[.string b, .int k n])).run P w = .ok (decide (a = b) && decide (m = n)) w := by
  rw [run_equalIn_struct w (d + 1) t _ _ h.und h.held]
  obtain ⟨f0, f1, hf⟩ : ∃ f0 f1, (P.fieldsOf t).toList = [f0, f1] := by
    have := congrArg List.length h.fields
    simp only [List.length_map, List.length_cons, List.length_nil] at this
    match hx : (P.fieldsOf t).toList, this with
    | [f0, f1], _ => exact ⟨f0, f1, rfl⟩
    | [], q => simp at q
    | [_], q => simp at q
    | _ :: _ :: _ :: _, q => simp at q
  have e := h.fields
  rw [hf] at e ⊢
  simp only [List.map_cons, List.map_nil, List.cons.injEq, Prod.mk.injEq, and_true] at e
  obtain ⟨⟨e1, e2, e3⟩, e4, e5, e6⟩ := e
  have hs : (isAgg ts).run P w = .ok false w := by simp [isAgg, und_run h.str]
  have hn : (isAgg tn).run P w = .ok false w := by simp [isAgg, und_run h.num]
  have n0 : ¬f0.name = "_" := by simpa using e1
  have n1 : ¬f1.name = "_" := by simpa using e4
  have q0 := run_equalIn_string (P := P) w d ts a b h.str
  have q1 := run_equalIn_int (P := P) w d tn k k m n h.num
  rw [toList_eq] at q0
  by_cases hab : a = b
  · subst hab
    by_cases hmn : m = n
    · subst hmn
      simp [Op.eqFields, n0, n1, e2, e3, e5, e6, part, hs, hn, q0, q1]
    · simp [Op.eqFields, n0, n1, e2, e3, e5, e6, part, hs, hn, q0, q1, hmn]
  · simp [Op.eqFields, n0, n1, e2, e3, e5, e6, part, hs, hn, q0, hab]
theorem rd_neqR {t ts tn u : TypeId} {k : IntKind} (h : RefT P t ts tn k) {a b : ByteArray} {m n : Int} (hx : ev l x = some (.agg #[.string a, .int k m])) (hy : ev l y = some (.agg #[.string b, .int k n])) :
    Reads P ⟨dst, .binOp .neq t x y u, ty, pos, af, g⟩ l [] (.bool (!decide ((a, m) = (b, n)))) := by
  intro ro w _ ρ hρ
  rw [Oper.semAt_eq _ _ _ (by intro c; simp)]
  have e1 := run_eqGuard_agg (P := P) w .neq t x y #[.string a, .int k m] #[.string b, .int k n] h.guard
  have e2 := run_neq_struct (P := P) w t #[.string a, .int k m] #[.string b, .int k n]
  rw [ref_equal h a b m n w 9998] at e2
  simp only [Result.andThen_ok] at e2
  simp [execOp, hρ _ _ hx, hρ _ _ hy, e1, e2]
end
end Go.Proofs.Slx
