import Derived.Test.YtmhpgdpegneejaaDoorSl1
import Derived.Laws.AppendOwn
import Derived.Laws.OwnMore
import Derived.Laws.IdiomCopy
set_option linter.unusedVariables false
namespace Go.Proofs.Slx
open Go

/-! ### 13. Cells written -/
/-- C with vs laid from o on. -/
def spl (C : Array Value) (o : Nat) : List Value → Array Value
  | [] => C
  | v :: r => spl (C.setIfInBounds o v) (o + 1) r
theorem spl_size : ∀ (vs : List Value) (C : Array Value) (o : Nat), (spl C o vs).size = C.size
  | [], _, _ => rfl
  | v :: r, C, o => by rw [spl, spl_size r]; simp
theorem spl_get : ∀ (vs : List Value) (C : Array Value) (o i : Nat), o + vs.length ≤ C.size → (spl C o vs)[i]? = if o ≤ i ∧ i < o + vs.length then vs[i - o]? else C[i]?
  | [], C, o, i, _ => by
    rw [if_neg (by simp only [List.length_nil]; omega)]
    rfl
  | v :: r, C, o, i, h => by
    simp only [List.length_cons] at h
    rw [spl, spl_get r _ _ _ (by simp; omega)]
    by_cases h1 : o + 1 ≤ i ∧ i < o + 1 + r.length
    · rw [if_pos h1, if_pos (by simp only [List.length_cons]; omega)]
      rw [show i - o = (i - (o + 1)) + 1 by omega]
      simp
    · rw [if_neg h1]
      by_cases h2 : i = o
      · subst h2
        rw [if_pos (by simp only [List.length_cons]; omega)]
        have : i < C.size := by omega
        simp [this]
      · rw [if_neg (by simp only [List.length_cons]; omega), Array.getElem?_setIfInBounds_ne (by omega)]
/-- May the cells o .. o + n be written? -/
def fok (fr : Nat × Nat) (o n : Nat) : Bool := Nat.ble fr.2 fr.1 || Nat.ble (o + n) fr.1 || Nat.ble fr.2 o || Nat.beq n 0
theorem fok_spec {fr : Nat × Nat} {o n : Nat} (h : fok fr o n = true) (j : Nat) (h1 : o ≤ j) (h2 : j < o + n) : (decide (fr.1 ≤ j) && decide (j < fr.2)) = false := by
  simp [fok] at h
  simp
  omega

theorem set_block {w : World} {b : Nat} {C : Array Value} {E : TypeId} {fr : Nat × Nat} (hb : w.heap[b]? = some (.cells C E fr)) (o : Nat) (v : Value) :
    (w.setCell ⟨b, o, none⟩ v).heap[b]? = some (.cells (C.setIfInBounds o v) E fr) ∧ ∀ i, i ≠ b → (w.setCell ⟨b, o, none⟩ v).heap[i]? = w.heap[i]? := by
  constructor
  · simp [World.setCell, Array.getElem?_modify, hb]
  · intro i hi
    simp only [World.setCell, Array.getElem?_modify]
    rw [if_neg (by omega)]

theorem run_stores {P : Program} (b o : Nat) (E : TypeId) (fr : Nat × Nat) : ∀ (vs : List Value) (i : Nat) (C : Array Value) (w : World), w.heap[b]? = some (.cells C E fr) → o + i + vs.length ≤ C.size → fok fr (o + i) vs.length = true → (∀ v ∈ vs, v.oneCell' = true) →
    ∃ w', (storeCells ⟨b, o, none⟩ vs i).run P w = .ok () w' ∧ w'.heap[b]? = some (.cells (spl C (o + i) vs) E fr) ∧ (∀ j, j ≠ b → w'.heap[j]? = w.heap[j]?) ∧ io w' = io w
  | [], i, C, w, hb, _, _, _ => ⟨w, rfl, hb, fun _ _ => rfl, rfl⟩
  | v :: r, i, C, w, hb, hl, hf, h1 => by
    simp only [List.length_cons] at hl hf
    have hi : o + i < C.size := by omega
    have hcell : w.cell? ⟨b, o + i, none⟩ = some C[o + i] := by rw [cell_at hb]; simp [hi]
    have hfro : w.frozen? ⟨b, o + i, none⟩ = false := by
      simp only [World.frozen?, hb]
      exact fok_spec hf (o + i) (by omega) (by omega)
    have hst : (store ((⟨b, o, none⟩ : Addr).add i) v).run P w = .ok () (w.setCell ⟨b, o + i, none⟩ v) := by
      rw [addr_add, run_store P w _ v _ (h1 v (by simp)), hcell]
      simp [hfro]
    obtain ⟨hs1, hs2⟩ := set_block hb (o + i) v
    obtain ⟨w', hr, hw1, hw2, hw3⟩ := run_stores (P := P) b o E fr r (i + 1) (C.setIfInBounds (o + i) v) (w.setCell ⟨b, o + i, none⟩ v) hs1 (by simp; omega)
      (by
        simp [fok] at hf ⊢
        omega) (fun x hx => h1 x (by simp [hx]))
    refine ⟨w', ?_, hw1, fun j hj => (hw2 j hj).trans (hs2 j hj), hw3.trans rfl⟩
    simp only [storeCells, Sem.run_bind, hst, Result.andThen_ok, hr]

/-! ### 14. Operations that write or make memory -/
section
variable {c : Place} {ds : List Deferred} {l : Env} {w : World} {K : Env → World → Prop} {L : List Hp} {ty : TypeId} {pos : String} {af : Array Edge} {g : Option (Nat × Bool)} {x y z : Operand} {d : Nat}

def ones (vs : List Value) : Bool := vs.all (·.oneCell')
theorem ef_store {t : TypeId} {s1 b1 : Nat} {z1 : Value} (ht : Sz c.P t s1 b1 z1) (n : Nat) {b o : Nat} {C : Array Value} {E : TypeId} {fr : Nat × Nat} {v : Value}
    (hx : ev l x = some (.pointer (some ⟨b, o, none⟩))) (hy : ev l y = some v) (h : Sat w L) (hL : L[n]? = some (pt b (.cells C E fr)))
    (hs : v.cells.size = s1) (ho : ones v.cells.toList = true) (hC : o + s1 ≤ C.size) (hf : fok fr o s1 = true)
    (k : ∀ w', Sat w' (L.set n (pt b (.cells (spl C o v.cells.toList) E fr))) → K l w') : OpE c ds ⟨none, .store t x y, ty, pos, af, g⟩ l w K := by
  have hb := h.at_ n hL
  obtain ⟨w', hr, hw1, hw2, hw3⟩ := run_stores (P := c.P) b o E fr v.cells.toList 0 C w hb (by simp [hs]; omega) (by simpa [hs] using hf) (fun v hv => List.all_eq_true.1 ho v hv)
  refine OpE.unit rfl (w' := w') (hio := hw3) (fun ρ hρ => ?_) (k w' (h.set n hL (by simpa using hw1) fun i u hi hu => (hw2 i hi).trans hu))
  rw [Oper.semAt_eq _ _ _ (by intro c; simp)]
  simp [execOp, hρ _ _ hx, hρ _ _ hy, Instr.storeAt, Instr.sureAddr, storeVar, ht.siz, hs, hr]

theorem heap_push {w : World} {o : Obj} : ({ w with heap := w.heap.push o } : World).heap = w.heap.push o := rfl
theorem ef_alloc {t : TypeId} {s1 b1 : Nat} {z1 : Value} (ht : Sz c.P t s1 b1 z1) (hd : Nat.blt d c.n = true) (h : Sat w L)
    (k : ∀ b w', Sat w' (pt b (.cells z1.cells t) :: L) → K ((d, .pointer (some ⟨b, 0, none⟩)) :: l) w') : OpE c ds ⟨some d, .alloc t, ty, pos, af, g⟩ l w K := by
  refine OpE.value (v := .pointer (some ⟨w.heap.size, 0, none⟩)) (w' := { w with heap := w.heap.push (.cells z1.cells t) }) rfl hd (fun ρ hρ => ?_) (k w.heap.size _ (h.new _ rfl))
  rw [Oper.semAt_eq _ _ _ (by intro c; simp)]
  simp [execOp, Instr.alloc, ht.zer, newVar, newRow, newObj, Sem.run]
theorem ef_box {t : TypeId} {v : Value} (hx : ev l x = some v) (hd : Nat.blt d c.n = true) (h : Sat w L)
    (k : ∀ b w', Sat w' (pt b (.cells v.cells t) :: L) → K ((d, .pointer (some ⟨b, 0, none⟩)) :: l) w') : OpE c ds ⟨some d, .box t x, ty, pos, af, g⟩ l w K := by
  refine OpE.value (v := .pointer (some ⟨w.heap.size, 0, none⟩)) (w' := { w with heap := w.heap.push (.cells v.cells t) }) rfl hd (fun ρ hρ => ?_) (k w.heap.size _ (h.new _ rfl))
  rw [Oper.semAt_eq _ _ _ (by intro c; simp)]
  simp [execOp, Instr.box, hρ _ _ hx, newVar, newRow, newObj, Sem.run]
theorem ef_makeMap {t : TypeId} (hd : Nat.blt d c.n = true) (h : Sat w L)
    (k : ∀ b w', Sat w' (pt b (.map #[] 0) :: L) → K ((d, .map (some b)) :: l) w') : OpE c ds ⟨some d, .makeMap t none, ty, pos, af, g⟩ l w K := by
  refine OpE.value (v := .map (some w.heap.size)) (w' := { w with heap := w.heap.push (.map #[] 0) }) rfl hd (fun ρ hρ => ?_) (k w.heap.size _ (h.new _ rfl))
  rw [Oper.semAt_eq _ _ _ (by intro c; simp)]
  simp [execOp, Instr.makeMap, newObj, Sem.run]

/-- The operands, evaluated. -/
def evs (l : Env) : List Operand → Option (List Value)
  | [] => some []
  | x :: r => match ev l x, evs l r with
    | some v, some vs => some (v :: vs)
    | _, _ => none
theorem evs_map {ρ : Operand → Value} (hρ : ∀ x u, ev l x = some u → ρ x = u) : ∀ {xs : List Operand} {vs : List Value}, evs l xs = some vs → xs.map ρ = vs
  | [], vs, h => by simp [evs] at h; simp [h]
  | x :: r, vs, h => by
    simp only [evs] at h
    split at h
    · rename_i v vs' h1 h2
      simp only [Option.some.injEq] at h
      subst h
      simp [hρ _ _ h1, evs_map hρ h2]
    · cases h

theorem ef_call {f : Nat} {args : List Operand} {tys : Array TypeId} {vs : List Value} (hf : ∀ (a : Array Value) (w : World), (callFunc f a).run c.P w = .ok (.enter f a) w) (ha : evs l args = some vs) (hd : Nat.blt d c.n = true)
    (hc : FnC c.P f vs w fun v w' => K ((d, v) :: l) w') : OpE c ds ⟨some d, .call ⟨.value (.func f), args.toArray, tys⟩, ty, pos, af, g⟩ l w K := by
  refine OpE.enter (f := f) (args := vs) (w' := w) rfl hd (fun ρ hρ => ?_) hc
  rw [Oper.semAt_eq _ _ _ (by intro c; simp)]
  have hff : ρ (.func f) = .func (.func f) #[] #[] := hρ _ _ rfl
  have := evs_map hρ ha
  simp [execOp, resolve, hff, Deferred.ofValue, invoke, hf, this]
/-- A function value that has captured variables. -/
theorem ef_callV {f : Nat} {args : List Operand} {tys : Array TypeId} {vs : List Value} {cap : List Value} (hx : ev l x = some (.func (.func f) #[] cap.toArray)) (hf : ∀ (a : Array Value) (w : World), (callFunc f a).run c.P w = .ok (.enter f a) w) (ha : evs l args = some vs) (hd : Nat.blt d c.n = true)
    (hc : FnC c.P f (vs ++ cap) w fun v w' => K ((d, v) :: l) w') : OpE c ds ⟨some d, .call ⟨.value x, args.toArray, tys⟩, ty, pos, af, g⟩ l w K := by
  refine OpE.enter (f := f) (args := vs ++ cap) (w' := w) rfl hd (fun ρ hρ => ?_) hc
  rw [Oper.semAt_eq _ _ _ (by intro c; simp)]
  have := evs_map hρ ha
  simp [execOp, resolve, hρ _ _ hx, Deferred.ofValue, invoke, hf, this]
end
end Go.Proofs.Slx
