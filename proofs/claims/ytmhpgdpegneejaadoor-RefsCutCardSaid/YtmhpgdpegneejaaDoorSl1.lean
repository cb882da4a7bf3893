import Derived.CallsIn
import Derived.Orders
import Derived.Laws.Cells
import Derived.Laws.Strings
set_option linter.unusedVariables false
namespace Go.Proofs.Slx
open Go

/-! ### 1. Reaching -/
def Reach (P : Program) (F : Machine → Prop) (m : Machine) : Prop := False ∨ ∃ m', Steps P m m' ∧ F m'
section
variable {P : Program} {F G : Machine → Prop} {m m₁ : Machine}
theorem Reach.now (h : F m) : Reach P F m := .inr ⟨m, Steps.refl P m, h⟩
theorem Reach.steps (h : Steps P m m₁) (r : Reach P F m₁) : Reach P F m := by
  rcases r with r | ⟨m', s, f⟩
  · exact r.elim
  · exact .inr ⟨m', h.trans s, f⟩
theorem Reach.step (h : Go.step P m = .next m₁) (r : Reach P F m₁) : Reach P F m := r.steps (.one h)
theorem Reach.bind (r : Reach P F m) (k : ∀ m', F m' → Reach P G m') : Reach P G m := by
  rcases r with r | ⟨m', s, f⟩
  · exact .inl r
  · exact (k m' f).steps s
end

/-! ### 2. Frames as lists of slots -/
abbrev Env := List (Nat × Value)
def look : Nat → Env → Option Value
  | _, [] => none
  | d, (e, v) :: l => bif Nat.beq d e then some v else look d l
def ev (l : Env) : Operand → Option Value
  | .tmp t => look t l
  | .const v => some v
  | .global g => some (.pointer (some ⟨g, 0, none⟩))
  | .func f => some (.func (.func f) #[] #[])

structure Fits (n : Nat) (l : Env) (ds : List Deferred) (a : Act) : Prop where
  size : a.tmps.size = n
  agree : ∀ d v, look d l = some v → a.tmps[d]? = some v
  defers : a.defers = ds

theorem Fits.eval {n : Nat} {l : Env} {ds : List Deferred} {a : Act} (h : Fits n l ds a) {x : Operand} {v : Value} (hx : ev l x = some v) : a.eval x = v := by
  cases x with
  | tmp t => have := h.agree t v hx; simp [Act.eval, Array.getD_eq_getD_getElem?, this]
  | const c => simpa [Act.eval, ev] using hx
  | global g => simpa [Act.eval, ev] using hx
  | func f => simpa [Act.eval, ev] using hx

theorem Fits.put {n : Nat} {l : Env} {ds : List Deferred} {a : Act} (h : Fits n l ds a) {d : Nat} (hd : Nat.blt d n = true) (v : Value) :
    Fits n ((d, v) :: l) ds (a.put (some d) v) := by
  have hd' : d < n := by simpa using hd
  refine ⟨by simp [Act.put, h.size], fun e u he => ?_, h.defers⟩
  simp only [look] at he
  by_cases hed : e = d
  · subst hed
    have : Nat.beq e e = true := by simp
    rw [this] at he
    simp only [cond_true, Option.some.injEq] at he
    subst he
    simp [Act.put, h.size, hd']
  · have : Nat.beq e d = false := by rw [← Bool.not_eq_true]; simpa using hed
    rw [this] at he
    simp only [cond_false] at he
    have := h.agree e u he
    simp only [Act.put]
    rw [Array.getElem?_setIfInBounds_ne (by omega)]
    exact this

theorem Fits.none {n : Nat} {l : Env} {ds : List Deferred} {a : Act} (h : Fits n l ds a) (v : Value) : Fits n l ds (a.put none v) := h

/-- Fewer slots are known. -/
theorem Fits.fewer {n : Nat} {l l' : Env} {ds : List Deferred} {a : Act} (h : Fits n l ds a) (hl : ∀ d v, look d l' = some v → look d l = some v) : Fits n l' ds a :=
  ⟨h.size, fun d v e => h.agree d v (hl d v e), h.defers⟩

/-- All that a list says, another says. -/
def sub : Env → Env → Prop
  | [], _ => True
  | (d, v) :: l', l => look d l = some v ∧ sub l' l
theorem look_of_sub {l : Env} : ∀ {l' : Env}, sub l' l → ∀ d v, look d l' = some v → look d l = some v
  | [], _, d, v, e => by simp [look] at e
  | (d', v') :: l', h, d, v, e => by
    simp only [look] at e
    by_cases hd : d = d'
    · subst hd
      have : Nat.beq d d = true := by simp
      rw [this] at e
      simp only [cond_true, Option.some.injEq] at e
      subst e
      exact h.1
    · have : Nat.beq d d' = false := by rw [← Bool.not_eq_true]; simpa using hd
      rw [this] at e
      simp only [cond_false] at e
      exact look_of_sub h.2 d v e

def argsEnv : Nat → List Value → Env
  | _, [] => []
  | i, v :: vs => (i, v) :: argsEnv (i + 1) vs
theorem look_argsEnv : ∀ (vs : List Value) (i d : Nat) (v : Value), look d (argsEnv i vs) = some v → i ≤ d ∧ vs[d - i]? = some v
  | [], _, _, _, e => by simp [argsEnv, look] at e
  | u :: vs, i, d, v, e => by
    simp only [argsEnv, look] at e
    by_cases hd : d = i
    · subst hd
      have : Nat.beq d d = true := by simp
      rw [this] at e
      simp at e
      simp [e]
    · have : Nat.beq d i = false := by rw [← Bool.not_eq_true]; simpa using hd
      rw [this] at e
      simp only [cond_false] at e
      obtain ⟨h1, h2⟩ := look_argsEnv vs (i + 1) d v e
      refine ⟨by omega, ?_⟩
      rw [show d - i = (d - (i + 1)) + 1 from by omega]
      simpa using h2
theorem fits_enter (vs : List Value) (n : Nat) (hn : vs.length ≤ n) :
    Fits n (argsEnv 0 vs) [] { tmps := vs.toArray ++ Array.replicate (n - vs.toArray.size) undef, defers := [] } := by
  refine ⟨by simp; omega, fun d v e => ?_, rfl⟩
  obtain ⟨-, h⟩ := look_argsEnv vs 0 d v e
  simp only [Nat.sub_zero] at h
  have hd : d < vs.length := (List.getElem?_eq_some_iff.1 h).1
  simp only
  rw [Array.getElem?_append_left (by simpa using hd)]
  simpa using h

/-! ### 4. Parts of the heap -/
abbrev Part := Nat → Option Obj
abbrev Hp := Part → Prop
def hsub (h h' : Part) : Prop := ∀ i o, h i = some o → h' i = some o
def hdis (h h' : Part) : Prop := ∀ i, h i = none ∨ h' i = none
def hjoin (h h' : Part) : Part := fun i => (h i).or (h' i)
def hof (w : World) : Part := fun i => w.heap[i]?
def SatH : List Hp → Part → Prop
  | [], _ => True
  | A :: R, h => ∃ h1 h2, hdis h1 h2 ∧ hsub h1 h ∧ hsub h2 h ∧ A h1 ∧ SatH R h2
def Sat (w : World) (L : List Hp) : Prop := SatH L (hof w)

theorem hsub.refl (h : Part) : hsub h h := fun _ _ e => e
theorem hsub.trans {a b c : Part} (h : hsub a b) (k : hsub b c) : hsub a c := fun i o e => k i o (h i o e)
theorem hdis.symm {a b : Part} (h : hdis a b) : hdis b a := fun i => (h i).symm
theorem hdis.sub {a b a' b' : Part} (h : hdis a b) (ha : hsub a' a) (hb : hsub b' b) : hdis a' b' := by
  intro i
  rcases h i with e | e
  · left
    cases h' : a' i with
    | none => rfl
    | some o => rw [ha i o h'] at e; cases e
  · right
    cases h' : b' i with
    | none => rfl
    | some o => rw [hb i o h'] at e; cases e
theorem hsub_join_left (a b : Part) : hsub a (hjoin a b) := fun i o e => by simp [hjoin, e]
theorem hsub_join_right {a b : Part} (h : hdis a b) : hsub b (hjoin a b) := fun i o e => by
  rcases h i with e' | e'
  · simp [hjoin, e', e]
  · rw [e] at e'; cases e'
theorem hjoin_sub {a b c : Part} (ha : hsub a c) (hb : hsub b c) : hsub (hjoin a b) c := fun i o e => by
  simp only [hjoin] at e
  cases h : a i with
  | none => rw [h] at e; exact hb i o (by simpa using e)
  | some o' => rw [h] at e; simp at e; exact ha i o (by rw [h, e])
theorem hdis_join {a b c : Part} (h1 : hdis a b) (h2 : hdis a c) : hdis a (hjoin b c) := fun i => by
  rcases h1 i with e | e
  · exact .inl e
  rcases h2 i with e' | e'
  · exact .inl e'
  · exact .inr (by simp [hjoin, e, e'])

theorem SatH.mono : ∀ {L : List Hp} {h h' : Part}, SatH L h → hsub h h' → SatH L h'
  | [], _, _, _, _ => trivial
  | _ :: _, _, _, ⟨h1, h2, d, s1, s2, a, r⟩, s => ⟨h1, h2, d, s1.trans s, s2.trans s, a, r⟩
theorem SatH.tail {A : Hp} {R : List Hp} {h : Part} : SatH (A :: R) h → SatH R h
  | ⟨_, _, _, _, s2, _, r⟩ => r.mono s2
theorem SatH.swap {A B : Hp} {R : List Hp} {h : Part} : SatH (A :: B :: R) h → SatH (B :: A :: R) h := by
  rintro ⟨h1, h2, d, s1, s2, a, g1, g2, d', t1, t2, b, r⟩
  exact ⟨g1, hjoin h1 g2, (hdis_join ((d.sub (hsub.refl _) t1).symm) d'), t1.trans s2, hjoin_sub s1 (t2.trans s2), b, h1, g2, d.sub (hsub.refl _) t2, hsub_join_left _ _, hsub_join_right (d.sub (hsub.refl _) t2), a, r⟩
theorem SatH.cons_mono {A : Hp} {L L' : List Hp} {h : Part} (f : ∀ h, SatH L h → SatH L' h) : SatH (A :: L) h → SatH (A :: L') h
  | ⟨h1, h2, d, s1, s2, a, r⟩ => ⟨h1, h2, d, s1, s2, a, f _ r⟩
theorem SatH.head_mono {A B : Hp} {L : List Hp} {h : Part} (f : ∀ h, A h → B h) : SatH (A :: L) h → SatH (B :: L) h
  | ⟨h1, h2, d, s1, s2, a, r⟩ => ⟨h1, h2, d, s1, s2, f _ a, r⟩
theorem SatH.perm {L L' : List Hp} (p : L.Perm L') : ∀ {h : Part}, SatH L h → SatH L' h := by
  induction p with
  | nil => exact fun s => s
  | cons A _ ih => exact fun s => s.cons_mono (fun _ => ih)
  | swap A B l => exact fun s => s.swap
  | trans _ _ ih1 ih2 => exact fun s => ih2 (ih1 s)

/-- Bring the n-th to the front. -/
def bring : Nat → List Hp → List Hp
  | 0, L => L
  | n + 1, A :: L => match bring n L with | B :: L' => B :: A :: L' | [] => [A]
  | _, [] => []
theorem bring_perm : ∀ (n : Nat) (L : List Hp), L.Perm (bring n L)
  | 0, L => .refl _
  | n + 1, [] => .refl _
  | n + 1, A :: L => by
    have := bring_perm n L
    simp only [bring]
    cases h : bring n L with
    | nil => rw [h] at this; rw [this.eq_nil]
    | cons B L' => rw [h] at this; exact (this.cons A).trans (.swap B A L')

section
variable {w w' : World} {A B : Hp} {L R : List Hp}
theorem Sat.bring (n : Nat) (h : Sat w L) : Sat w (bring n L) := SatH.perm (bring_perm n L) h
theorem Sat.perm (p : L.Perm R) (h : Sat w L) : Sat w R := SatH.perm p h
theorem Sat.tail (h : Sat w (A :: R)) : Sat w R := SatH.tail h
theorem Sat.swap (h : Sat w (A :: B :: R)) : Sat w (B :: A :: R) := SatH.swap h
theorem Sat.same (h : Sat w L) (e : ∀ (i : Nat) (o : Obj), w.heap[i]? = some o → w'.heap[i]? = some o) : Sat w' L := SatH.mono h (fun i o q => e i o q)
theorem Sat.head (h : Sat w (A :: R)) (f : ∀ h, A h → B h) : Sat w (B :: R) := SatH.head_mono f h
end

def all (L : List Hp) : Hp := SatH L
theorem SatH.join : ∀ {L R : List Hp} {h : Part}, SatH (all L :: R) h → SatH (L ++ R) h
  | [], _, _, s => s.tail
  | A :: L, R, h, ⟨h1, h2, d, s1, s2, ⟨g1, g2, d', t1, t2, a, r'⟩, r⟩ =>
    ⟨g1, hjoin g2 h2, hdis_join d' (d.sub t1 (hsub.refl _)), t1.trans s1, hjoin_sub (t2.trans s1) s2, a,
      SatH.join ⟨g2, h2, d.sub t2 (hsub.refl _), hsub_join_left _ _, hsub_join_right (d.sub t2 (hsub.refl _)), r', r⟩⟩
theorem SatH.part : ∀ {L R : List Hp} {h : Part}, SatH (L ++ R) h → SatH (all L :: R) h
  | [], R, h, s => ⟨fun _ => none, h, fun _ => .inl rfl, (fun _ _ e => by cases e), hsub.refl _, trivial, s⟩
  | A :: L, R, h, ⟨h1, h2, d, s1, s2, a, r⟩ => by
    obtain ⟨g1, g2, d', t1, t2, a', r'⟩ := SatH.part r
    exact ⟨hjoin h1 g1, g2, (hdis_join (d.sub (hsub.refl _) t2).symm d'.symm).symm, hjoin_sub s1 (t1.trans s2), t2.trans s2,
      ⟨h1, g1, d.sub (hsub.refl _) t1, hsub_join_left _ _, hsub_join_right (d.sub (hsub.refl _) t1), a, a'⟩, r'⟩
theorem Sat.join {w : World} {L R : List Hp} (h : Sat w (all L :: R)) : Sat w (L ++ R) := SatH.join h
theorem Sat.part {w : World} {L R : List Hp} (h : Sat w (L ++ R)) : Sat w (all L :: R) := SatH.part h
theorem Sat.ex {w : World} {α : Type} {A : α → Hp} {R : List Hp} (h : Sat w ((fun h => ∃ x, A x h) :: R)) : ∃ x, Sat w (A x :: R) := by
  obtain ⟨h1, h2, d, s1, s2, ⟨x, a⟩, r⟩ := h
  exact ⟨x, h1, h2, d, s1, s2, a, r⟩
theorem Sat.ex' {w : World} {α : Type} {A : α → Hp} {R : List Hp} (x : α) (h : Sat w (A x :: R)) : Sat w ((fun h => ∃ x, A x h) :: R) :=
  SatH.head_mono (fun _ a => ⟨x, a⟩) h
theorem Sat.pure {w : World} {p : Prop} {A : Hp} {R : List Hp} (h : Sat w ((fun h => p ∧ A h) :: R)) : p ∧ Sat w (A :: R) := by
  obtain ⟨h1, h2, d, s1, s2, ⟨x, a⟩, r⟩ := h
  exact ⟨x, h1, h2, d, s1, s2, a, r⟩
theorem Sat.pure' {w : World} {p : Prop} {A : Hp} {R : List Hp} (x : p) (h : Sat w (A :: R)) : Sat w ((fun h => p ∧ A h) :: R) :=
  SatH.head_mono (fun _ a => ⟨x, a⟩) h

/-- Block b is o. -/
def pt (b : Nat) (o : Obj) : Hp := fun h => h b = some o
section
variable {w w' : World} {b : Nat} {o o' : Obj} {L R : List Hp}
theorem Sat.read (h : Sat w (pt b o :: R)) : w.heap[b]? = some o := by
  obtain ⟨h1, h2, d, s1, s2, a, r⟩ := h
  exact s1 b o a
theorem SatH.get : ∀ {L : List Hp} (n : Nat) {h : Part} {A : Hp}, SatH L h → L[n]? = some A → ∃ g, hsub g h ∧ A g
  | [], n, _, _, _, e => by simp at e
  | B :: L, 0, h, A, ⟨h1, h2, d, s1, s2, a, r⟩, e => by simp at e; subst e; exact ⟨h1, s1, a⟩
  | B :: L, n + 1, h, A, ⟨h1, h2, d, s1, s2, a, r⟩, e => by
    obtain ⟨g, s, a⟩ := SatH.get n r (by simpa using e)
    exact ⟨g, s.trans s2, a⟩
theorem Sat.at_ (n : Nat) (h : Sat w L) (e : L[n]? = some (pt b o)) : w.heap[b]? = some o := by
  obtain ⟨g, s, a⟩ := SatH.get n h e
  exact s b o a
theorem Sat.write (h : Sat w (pt b o :: R)) (hb : w'.heap[b]? = some o') (hw : ∀ i x, i ≠ b → w.heap[i]? = some x → w'.heap[i]? = some x) : Sat w' (pt b o' :: R) := by
  obtain ⟨h1, h2, d, s1, s2, a, r⟩ := h
  have hb2 : h2 b = none := by
    rcases d b with e | e
    · rw [a] at e; cases e
    · exact e
  refine ⟨fun i => if i = b then some o' else none, h2, fun i => ?_, fun i x e => ?_, fun i x e => ?_, by simp [pt], r⟩
  · by_cases hi : i = b
    · subst hi; exact .inr hb2
    · exact .inl (by simp [hi])
  · by_cases hi : i = b
    · subst hi; simp at e; subst e; exact hb
    · simp [hi] at e
  · exact hw i x (fun hi => by subst hi; rw [hb2] at e; cases e) (s2 i x e)
theorem SatH.set : ∀ {L : List Hp} (n : Nat) {h h' : Part}, SatH L h → L[n]? = some (pt b o) → h' b = some o' → (∀ i x, i ≠ b → h i = some x → h' i = some x) → SatH (L.set n (pt b o')) h'
  | [], n, _, _, _, e, _, _ => by simp at e
  | A :: L, 0, h, h', ⟨h1, h2, d, s1, s2, a, r⟩, e, hb, hw => by
    simp at e; subst e
    have hb2 : h2 b = none := by
      rcases d b with e | e
      · rw [a] at e; cases e
      · exact e
    refine ⟨fun i => if i = b then some o' else none, h2, fun i => ?_, fun i x e => ?_, fun i x e => ?_, by simp [pt], r⟩
    · by_cases hi : i = b
      · subst hi; exact .inr hb2
      · exact .inl (by simp [hi])
    · by_cases hi : i = b
      · subst hi; simp at e; subst e; exact hb
      · simp [hi] at e
    · exact hw i x (fun hi => by subst hi; rw [hb2] at e; cases e) (s2 i x e)
  | A :: L, n + 1, h, h', ⟨h1, h2, d, s1, s2, a, r⟩, e, hb, hw => by
    have e' : L[n]? = some (pt b o) := by simpa using e
    obtain ⟨g, sg, ag⟩ := SatH.get n r e'
    have hb2 : h2 b = some o := sg b o ag
    have hb1 : h1 b = none := by
      rcases d b with e | e
      · exact e
      · rw [hb2] at e; cases e
    refine ⟨h1, fun i => if i = b then some o' else h2 i, fun i => ?_, fun i x e => ?_, fun i x e => ?_, a, SatH.set n r e' (by simp) (fun i x hi hx => by simp [hi, hx])⟩
    · by_cases hi : i = b
      · subst hi; exact .inl hb1
      · rcases d i with e | e
        · exact .inl e
        · exact .inr (by simp [hi, e])
    · exact hw i x (fun hi => by subst hi; have e0 := ‹h1 i = some x›; rw [hb1] at e0; cases e0) (s1 i x ‹h1 i = some x›)
    · by_cases hi : i = b
      · subst hi; simp at e; subst e; exact hb
      · simp [hi] at e; exact hw i x hi (s2 i x e)
theorem Sat.set (n : Nat) (h : Sat w L) (e : L[n]? = some (pt b o)) (hb : w'.heap[b]? = some o') (hw : ∀ i x, i ≠ b → w.heap[i]? = some x → w'.heap[i]? = some x) : Sat w' (L.set n (pt b o')) :=
  SatH.set n h e hb hw
theorem Sat.new (h : Sat w L) (o : Obj) (hs : w'.heap = w.heap.push o) : Sat w' (pt w.heap.size o :: L) := by
  refine ⟨fun i => if i = w.heap.size then some o else none, hof w, fun i => ?_, fun i x e => ?_, fun i x e => ?_, by simp [pt], h⟩
  · by_cases hi : i = w.heap.size
    · subst hi; exact .inr (by simp [hof])
    · exact .inl (by simp [hi])
  · by_cases hi : i = w.heap.size
    · subst hi; simp at e; subst e; simp [hof, hs]
    · simp [hi] at e
  · have hlt : i < w.heap.size := (Array.getElem?_eq_some_iff.1 e).1
    simp only [hof, hs] at e ⊢
    rw [Array.getElem?_push_lt hlt]
    simpa [Array.getElem?_eq_getElem hlt] using e
theorem Sat.ne {b' : Nat} (h : Sat w (pt b o :: pt b' o' :: R)) : b ≠ b' := by
  rintro rfl
  obtain ⟨h1, h2, d, s1, s2, a, g1, g2, d', t1, t2, a', r⟩ := h
  rcases d b with e | e
  · rw [a] at e; cases e
  · rw [t1 _ _ a'] at e; cases e
end
/-! ### 5. Contracts of functions -/
def Ret (R : Value → World → Prop) : Ending → World → Prop
  | .returned v, w => R v w
  | .panicked _, _ => False
  | .outgrown, _ => False
/-- What lies outside the heap. -/
def io (w : World) := (w.os, w.output)
/-- Called, it returns. -/
def FnC (P : Program) (f : FuncId) (args : List Value) (w : World) (R : Value → World → Prop) : Prop := Calls P f args.toArray w (Ret fun v w' => io w' = io w ∧ R v w')
theorem FnC.mono {P : Program} {f : FuncId} {args : List Value} {w : World} {R R' : Value → World → Prop} (h : FnC P f args w R) (hr : ∀ v w', R v w' → R' v w') : FnC P f args w R' :=
  Calls.mono h fun e w' x => by cases e <;> first | exact ⟨x.1, hr _ _ x.2⟩ | exact x
theorem FnC.of_calls {P : Program} {f : FuncId} {args : List Value} {w : World} {R : Ending → World → Prop} {R' : Value → World → Prop} (h : Calls P f args.toArray w R) (hr : ∀ e w', R e w' → ∃ v, e = .returned v ∧ io w' = io w ∧ R' v w') : FnC P f args w R' :=
  Calls.mono h fun e w' x => by obtain ⟨v, rfl, y⟩ := hr _ _ x; exact y

/-- A round of a range over a function: to be entered from whatever frame. -/
def RoundC (P : Program) (l f : Nat) (tmps : Array Value) (assign body : Code) (w : World) (R : Value → World → Prop) : Prop :=
  ∀ (F : Machine → Prop) (cf : Frame) (cs : List Frame), (∀ v w', io w' = io w → R v w' → Reach P F (lone (cf.finish v) cs w')) →
    Reach P F (lone (Frame.round l f tmps assign body .normal) (cf :: cs) w)
theorem RoundC.mono {P : Program} {l f : Nat} {tmps : Array Value} {assign body : Code} {w : World} {R R' : Value → World → Prop} (h : RoundC P l f tmps assign body w R) (hr : ∀ v w', R v w' → R' v w') :
    RoundC P l f tmps assign body w R' := fun F cf cs k => h F cf cs fun v w' e r => k v w' e (hr v w' r)
theorem RoundC.mono' {P : Program} {l f : Nat} {tmps : Array Value} {assign body : Code} {w : World} {R R' : Value → World → Prop} (h : RoundC P l f tmps assign body w R) (hr : ∀ v w', io w' = io w → R v w' → R' v w') :
    RoundC P l f tmps assign body w R' := fun F cf cs k => h F cf cs fun v w' e r => k v w' e (hr v w' e r)

/-! ### 6. One operation -/
def OpUpon (P : Program) (o : Oper) (a : Act) (K : Act → World → Prop) : Result Next → Prop
  | .ok (.value v) w' => K (a.put o.dst v) w'
  | .ok .skip w' => K (a.put o.dst undef) w'
  | .ok (.enter f args) w' => Calls P f args w' (Ret fun v w'' => K (a.put o.dst v) w'')
  | .ok (.round l f tmps assign body) w' => RoundC P l f tmps assign body w' fun v w'' => K (a.put o.dst v) w''
  | _ => False
def OpAsks (P : Program) (ro : Option Nat) (o : Oper) (a : Act) (w : World) : Prop := False
def OpW (P : Program) (ro : Option Nat) (o : Oper) (a : Act) (w : World) (K : Act → World → Prop) : Prop :=
  OpUpon P o a K ((o.semAt ro a.eval).run P w) ∨ OpAsks P ro o a w
theorem OpW.mono {P : Program} {ro : Option Nat} {o : Oper} {a : Act} {w : World} {K K' : Act → World → Prop} (h : OpW P ro o a w K) (hk : ∀ a w, K a w → K' a w) : OpW P ro o a w K' := by
  rcases h with h | h
  · refine .inl ?_
    generalize (o.semAt ro a.eval).run P w = r at *
    cases r with
    | ok n w' =>
      cases n <;> simp only [OpUpon] at h ⊢ <;>
        first
          | exact hk _ _ h
          | exact Calls.mono h fun e w'' x => by cases e <;> first | exact hk _ _ x | exact x
          | exact RoundC.mono h fun v w'' x => hk _ _ x
    | halt x w' => simp only [OpUpon] at h
  · exact .inr h

/-- Whether it is carried out. -/
def OpG (P : Program) (ro : Option Nat) (ops : Array Oper) (o : Oper) (a : Act) (w : World) (K : Act → World → Prop) : Prop :=
  if Region.wanted o (yielded ops a.tmps) then OpW P ro o a w K else K (a.put o.dst undef) w
theorem OpG.mono {P : Program} {ro : Option Nat} {ops : Array Oper} {o : Oper} {a : Act} {w : World} {K K' : Act → World → Prop} (h : OpG P ro ops o a w K) (hk : ∀ a w, K a w → K' a w) : OpG P ro ops o a w K' := by
  unfold OpG at *
  split
  · rename_i hw; rw [if_pos hw] at h; exact h.mono hk
  · rename_i hw; rw [if_neg hw] at h; exact hk _ _ h

theorem reach_op {P : Program} {F : Machine → Prop} {b : Frame} {a : Act} {k : List Item} {cs : List Frame} {w : World} {ops : Array Oper} {i : Nat} {rest : List Nat} {o : Oper}
    (ho : ops[i]? = some o) (hb : b.kind = .normal)
    (h : OpG P b.roundOf ops o a w fun a' w' => Reach P F (lone (b.atR a' (.inRegion ops rest :: k)) cs w')) :
    Reach P F (lone (b.atR a (.inRegion ops (i :: rest) :: k)) cs w) := by
  unfold OpG at h
  have hfin : ∀ v, (b.atR a (.inRegion ops (i :: rest) :: k)).finish v = b.atR (a.put o.dst v) (.inRegion ops rest :: k) := by
    intro v; rw [Frame.finish_atR, ho]; rfl
  by_cases hw : Region.wanted o (yielded ops a.tmps) = true
  · rw [if_pos hw] at h
    have hg := stepGR_op (P := P) (b := b) (k := k) (cs := cs) (w := w) (rest := rest) ho hw
    rcases h with h | h
    · generalize hr : (o.semAt b.roundOf a.eval).run P w = r at h
      cases r with
      | ok n w' =>
        cases n <;> simp only [OpUpon] at h
        case value v => exact h.step (step_lone_go (by rw [hg, ← hfin]; simp [stepG.apply, Sem.runT_eq, hr]))
        case skip => exact h.step (step_lone_go (by rw [hg, ← hfin]; simp [stepG.apply, Sem.runT_eq, hr]))
        case enter f args =>
          obtain ⟨e, w'', fr, hR, hsteps, _, hleave⟩ := h (b.atR a (.inRegion ops (i :: rest) :: k) :: cs)
          have henter : Go.step P (lone (b.atR a (.inRegion ops (i :: rest) :: k)) cs w) =
              .next (lone (Frame.enter P f args .normal) (b.atR a (.inRegion ops (i :: rest) :: k) :: cs) w') :=
            step_lone_go (by rw [hg]; simp [stepG.apply, Sem.runT_eq, hr, Frame.atR])
          cases e with
          | returned v =>
            have hR' : Reach P F (lone (b.atR (a.put o.dst v) (.inRegion ops rest :: k)) cs w'') := hR
            refine ((hR'.step ?_).steps hsteps).step henter
            rw [← hfin]; exact step_leave_returned hleave
          | panicked ch => exact hR.elim
          | outgrown => exact hR.elim
        case round l f tmps assign body =>
          have henter : Go.step P (lone (b.atR a (.inRegion ops (i :: rest) :: k)) cs w) =
              .next (lone (Frame.round l f tmps assign body .normal) (b.atR a (.inRegion ops (i :: rest) :: k) :: cs) w') :=
            step_lone_go (by rw [hg]; simp [stepG.apply, Sem.runT_eq, hr, Frame.atR])
          exact (h F _ cs fun v w'' _ r => by rw [hfin]; exact r).step henter
      | halt x w' => simp only [OpUpon] at h
    · exact .inl h
  · rw [if_neg hw] at h
    have hs := stepR_op_skip (P := P) (b := b) (a := a) (k := k) (cs := cs) (w := w) (ops := ops) (i := i) (rest := rest) (by simp [ho]; simpa using hw)
    simp only [ho, Option.bind_some] at hs
    exact h.step hs

/-! ### 7. Running a frame -/
structure Place where
  P : Program
  ro : Option Nat
  f : Nat
  n : Nat
  cs : List Frame
  io : Os × Array (Nat × ByteArray)
  F : Machine → Prop

def Run (c : Place) (ds : List Deferred) (todo : List Item) (l : Env) (w : World) : Prop :=
  io w = c.io → ∀ (b : Frame) (a : Act), b.roundOf = c.ro → b.fn = c.f → b.kind = .normal → Fits c.n l ds a → Reach c.P c.F (lone (b.atR a todo) c.cs w)

/-- One operation, at frames as lists. -/
def OpE (c : Place) (ds : List Deferred) (o : Oper) (l : Env) (w : World) (K : Env → World → Prop) : Prop :=
  io w = c.io → ∀ a, Fits c.n l ds a → OpW c.P c.ro o a w fun a' w' => io w' = c.io ∧ ∃ l', Fits c.n l' ds a' ∧ K l' w'
theorem OpE.mono {c : Place} {ds : List Deferred} {o : Oper} {l : Env} {w : World} {K K' : Env → World → Prop} (h : OpE c ds o l w K) (hk : ∀ l w, K l w → K' l w) : OpE c ds o l w K' :=
  fun hi a hf => (h hi a hf).mono fun _ _ ⟨e, l', f', k'⟩ => ⟨e, l', f', hk _ _ k'⟩

/-- Is a guarded operation wanted? -/
def gval (ops : Array Oper) (l : Env) (g : Nat × Bool) : Option Bool :=
  match (ops[g.1]?).bind (·.dst) with
  | some d => match look d l with
    | some (.bool b) => some (b == g.2)
    | some (.tuple _) => some false
    | _ => none
  | none => none
theorem wanted_of_gval {ops : Array Oper} {l : Env} {o : Oper} {g : Nat × Bool} {n : Nat} {ds : List Deferred} {a : Act} {t : Bool} (hg : o.guard = some g) (hf : Fits n l ds a) (h : gval ops l g = some t) : Region.wanted o (yielded ops a.tmps) = t := by
  unfold gval at h
  split at h
  · rename_i d hd
    split at h
    · rename_i b hb
      simp only [Option.some.injEq] at h
      have := hf.agree d _ hb
      obtain ⟨j, want⟩ := g
      simp only at hd h
      simp only [Region.wanted, hg, yielded, hd, Option.bind_some, this]
      subst h
      cases b <;> cases want <;> rfl
    · rename_i b hb
      simp only [Option.some.injEq] at h
      have := hf.agree d _ hb
      obtain ⟨j, want⟩ := g
      simp only at hd
      simp only [Region.wanted, hg, yielded, hd, Option.bind_some, this]
      subst h
      rfl
    · cases h
  · cases h

/-- Within a region: what is left of it. -/
def RunO (c : Place) (ds : List Deferred) (ops : Array Oper) (rest : List Oper) (k : List Item) (l : Env) (w : World) : Prop :=
  ∀ i, i + rest.length = ops.size → ops.toList.drop i = rest → Run c ds (.inRegion ops (List.range' i rest.length) :: k) l w

section
variable {c : Place} {ds : List Deferred} {k : List Item} {l : Env} {w : World}

theorem run_fewer {l' : Env} (h : sub l' l) (r : Run c ds k l' w) : Run c ds k l w :=
  fun hi b a h1 h2 h3 hf => r hi b a h1 h2 h3 (hf.fewer (look_of_sub h))
theorem run_skip (r : Run c ds k l w) : Run c ds (.code .skip :: k) l w := fun hi b a h1 h2 h3 hf => (r hi b a h1 h2 h3 hf).step stepR_skip
theorem run_label {j : Nat} (r : Run c ds k l w) : Run c ds (.code (.label j) :: k) l w := fun hi b a h1 h2 h3 hf => (r hi b a h1 h2 h3 hf).step stepR_label
theorem run_inBlock {id : Nat} (r : Run c ds k l w) : Run c ds (.inBlock id :: k) l w := fun hi b a h1 h2 h3 hf => (r hi b a h1 h2 h3 hf).step stepR_inBlock
theorem run_inScope {x : Code} (r : Run c ds k l w) : Run c ds (.inScope x :: k) l w := fun hi b a h1 h2 h3 hf => (r hi b a h1 h2 h3 hf).step (step_lone_go (by simp [stepG, stepG.exec, Frame.atR]))
theorem run_scope {x : Code} (r : Run c ds (.code x :: .inScope x :: k) l w) : Run c ds (.code (.scope x) :: k) l w := fun hi b a h1 h2 h3 hf => (r hi b a h1 h2 h3 hf).step (step_lone_go (by simp [stepG, stepG.exec, Frame.atR]))
theorem run_seq {x y : Code} (r : Run c ds (.code x :: .code y :: k) l w) : Run c ds (.code (.seq x y) :: k) l w := fun hi b a h1 h2 h3 hf => (r hi b a h1 h2 h3 hf).step stepR_seq
theorem run_block {id : Nat} {x : Code} (r : Run c ds (.code x :: .inBlock id :: k) l w) : Run c ds (.code (.block id x) :: k) l w := fun hi b a h1 h2 h3 hf => (r hi b a h1 h2 h3 hf).step stepR_block
theorem run_cond_true {x : Operand} {y z : Code} (hx : ev l x = some (.bool true)) (r : Run c ds (.code y :: k) l w) : Run c ds (.code (.cond x y z) :: k) l w :=
  fun hi b a h1 h2 h3 hf => (r hi b a h1 h2 h3 hf).step (by have := stepR_cond (P := c.P) (b := b) (k := k) (cs := c.cs) (w := w) (x := y) (y := z) (t := true) (hf.eval hx); exact this)
theorem run_cond_false {x : Operand} {y z : Code} (hx : ev l x = some (.bool false)) (r : Run c ds (.code z :: k) l w) : Run c ds (.code (.cond x y z) :: k) l w :=
  fun hi b a h1 h2 h3 hf => (r hi b a h1 h2 h3 hf).step (by have := stepR_cond (P := c.P) (b := b) (k := k) (cs := c.cs) (w := w) (x := y) (y := z) (t := false) (hf.eval hx); exact this)
theorem run_cond {x : Operand} {y z : Code} {t : Bool} (hx : ev l x = some (.bool t)) (ry : t = true → Run c ds (.code y :: k) l w) (rz : t = false → Run c ds (.code z :: k) l w) : Run c ds (.code (.cond x y z) :: k) l w := by
  cases t
  · exact run_cond_false hx (rz rfl)
  · exact run_cond_true hx (ry rfl)
theorem run_exit {id : Nat} {k' : List Item} (he : exitTo id k = some k') (r : Run c ds k' l w) : Run c ds (.code (.exit id) :: k) l w := fun hi b a h1 h2 h3 hf => (r hi b a h1 h2 h3 hf).step (stepR_exit he)
theorem run_goto {j : Nat} {k' : List Item} (he : gotoIn j k = some k') (r : Run c ds k' l w) : Run c ds (.code (.goto j) :: k) l w := fun hi b a h1 h2 h3 hf => (r hi b a h1 h2 h3 hf).step (stepR_goto he)

/-- A loop, its invariant over ghosts. -/
theorem run_loop {σ : Type} {x : Code} (env : σ → Env) (I : σ → World → Prop) (μ : σ → Nat) (s : σ) (h0 : I s w) (hs : sub (env s) l)
    (round : ∀ s w, I s w → (∀ s' w', I s' w' → μ s' < μ s → Run c ds (.inLoop x :: k) (env s') w') → Run c ds (.code x :: .inLoop x :: k) (env s) w) : Run c ds (.code (.loop x) :: k) l w := by
  have key : ∀ m s w, μ s = m → I s w → Run c ds (.code x :: .inLoop x :: k) (env s) w := by
    intro m
    induction m using Nat.strongRecOn with
    | _ m ih =>
      intro s w hm hI
      refine round s w hI fun s' w' hI' hlt hi b a h1 h2 h3 hf => ?_
      exact (ih (μ s') (hm ▸ hlt) s' w' rfl hI' hi b a h1 h2 h3 hf).step stepR_inLoop
  exact run_fewer hs fun hi b a h1 h2 h3 hf => (key _ s w rfl h0 hi b a h1 h2 h3 hf).step stepR_loop

theorem run_region {id : Nat} {ops : Array Oper} (r : RunO c ds ops ops.toList k l w) : Run c ds (.code (.region id ops false) :: k) l w :=
  fun hi b a h1 h2 h3 hf => (r 0 (by simp) (by simp) hi b a h1 h2 h3 hf).step (by
    have := stepR_region (P := c.P) (b := b) (a := a) (k := k) (cs := c.cs) (w := w) (ops := ops) (id := id)
    rw [this, List.range_eq_range']; simp)
theorem run_region_lit {id : Nat} {os : List Oper} (r : RunO c ds os.toArray os k l w) : Run c ds (.code (.region id os.toArray false) :: k) l w := run_region (by simpa using r)

theorem runO_nil {ops : Array Oper} (r : Run c ds k l w) : RunO c ds ops [] k l w :=
  fun i _ _ hi b a h1 h2 h3 hf => (r hi b a h1 h2 h3 hf).step stepR_region_end

theorem get_of_drop {α : Type} {l : List α} {i : Nat} {x : α} {r : List α} (h : l.drop i = x :: r) : l[i]? = some x ∧ l.drop (i + 1) = r := by
  have h2 := congrArg (fun q => q[0]?) h
  have h3 := congrArg (List.drop 1) h
  simp at h2 h3
  exact ⟨h2, h3⟩

theorem runO_op {ops : Array Oper} {o : Oper} {rest : List Oper} (hg : o.guard = none) (h : OpE c ds o l w fun l' w' => RunO c ds ops rest k l' w') : RunO c ds ops (o :: rest) k l w := by
  intro i hi hdrop io0 b a h1 h2 h3 hf
  obtain ⟨ho, hrest⟩ := get_of_drop hdrop
  have ho' : ops[i]? = some o := by simpa using ho
  rw [List.length_cons, List.range'_succ]
  refine reach_op ho' h3 ?_
  unfold OpG
  rw [if_pos (by simp [Region.wanted, hg]), h1]
  exact (h io0 a hf).mono fun a' w' ⟨e, l', hf', r⟩ => r (i + 1) (by simp only [List.length_cons] at hi; omega) hrest e b a' h1 h2 h3 hf'
/-- A guarded operation that is carried out. -/
theorem runO_op_g {ops : Array Oper} {o : Oper} {rest : List Oper} {g : Nat × Bool} (hg : o.guard = some g) (hv : gval ops l g = some true) (h : OpE c ds o l w fun l' w' => RunO c ds ops rest k l' w') : RunO c ds ops (o :: rest) k l w := by
  intro i hi hdrop io0 b a h1 h2 h3 hf
  obtain ⟨ho, hrest⟩ := get_of_drop hdrop
  have ho' : ops[i]? = some o := by simpa using ho
  rw [List.length_cons, List.range'_succ]
  refine reach_op ho' h3 ?_
  unfold OpG
  rw [if_pos (by rw [wanted_of_gval hg hf hv]), h1]
  exact (h io0 a hf).mono fun a' w' ⟨e, l', hf', r⟩ => r (i + 1) (by simp only [List.length_cons] at hi; omega) hrest e b a' h1 h2 h3 hf'
/-- A guarded operation that is passed over. -/
theorem runO_pass {ops : Array Oper} {o : Oper} {rest : List Oper} {g : Nat × Bool} {d : Nat} (hg : o.guard = some g) (hv : gval ops l g = some false) (hd : o.dst = some d) (hn : Nat.blt d c.n = true) (r : RunO c ds ops rest k ((d, undef) :: l) w) : RunO c ds ops (o :: rest) k l w := by
  intro i hi hdrop io0 b a h1 h2 h3 hf
  obtain ⟨ho, hrest⟩ := get_of_drop hdrop
  have ho' : ops[i]? = some o := by simpa using ho
  rw [List.length_cons, List.range'_succ]
  refine reach_op ho' h3 ?_
  unfold OpG
  rw [if_neg (by rw [wanted_of_gval hg hf hv]; simp), hd]
  exact r (i + 1) (by simp only [List.length_cons] at hi; omega) hrest io0 b _ h1 h2 h3 (hf.put hn _)
theorem runO_pass0 {ops : Array Oper} {o : Oper} {rest : List Oper} {g : Nat × Bool} (hg : o.guard = some g) (hv : gval ops l g = some false) (hd : o.dst = none) (r : RunO c ds ops rest k l w) : RunO c ds ops (o :: rest) k l w := by
  intro i hi hdrop io0 b a h1 h2 h3 hf
  obtain ⟨ho, hrest⟩ := get_of_drop hdrop
  have ho' : ops[i]? = some o := by simpa using ho
  rw [List.length_cons, List.range'_succ]
  refine reach_op ho' h3 ?_
  unfold OpG
  rw [if_neg (by rw [wanted_of_gval hg hf hv]; simp), hd]
  exact r (i + 1) (by simp only [List.length_cons] at hi; omega) hrest io0 b _ h1 h2 h3 hf
end

/-! ### 8. Operations that give a value: with what they read of the heap -/
/-- What is known of some blocks. -/
def Holds : List (Nat × Obj) → World → Prop
  | [], _ => True
  | (b, o) :: r, w => w.heap[b]? = some o ∧ Holds r w
/-- It gives v wherever those blocks are so, and does nothing else. -/
def Reads (P : Program) (o : Oper) (l : Env) (kl : List (Nat × Obj)) (v : Value) : Prop :=
  ∀ (ro : Option Nat) (w : World), Holds kl w → ∀ ρ : Operand → Value, (∀ x u, ev l x = some u → ρ x = u) → (o.semAt ro ρ).run P w = .ok (.value v) w

section
variable {c : Place} {ds : List Deferred} {l : Env} {w : World} {o : Oper} {K : Env → World → Prop}
theorem OpE.value {d : Nat} {v : Value} {w' : World} (hd : o.dst = some d) (hn : Nat.blt d c.n = true)
    (hop : ∀ ρ : Operand → Value, (∀ x u, ev l x = some u → ρ x = u) → (o.semAt c.ro ρ).run c.P w = .ok (.value v) w') (r : K ((d, v) :: l) w') (hio : io w' = io w := by rfl) : OpE c ds o l w K := by
  intro hi a hf
  refine .inl ?_
  rw [hop a.eval (fun x u hx => hf.eval hx)]
  simp only [OpUpon, hd]
  exact ⟨hio.trans hi, _, hf.put hn v, r⟩
theorem OpE.unit {w' : World} (hd : o.dst = none)
    (hop : ∀ ρ : Operand → Value, (∀ x u, ev l x = some u → ρ x = u) → (o.semAt c.ro ρ).run c.P w = .ok .skip w') (r : K l w') (hio : io w' = io w := by rfl) : OpE c ds o l w K := by
  intro hi a hf
  refine .inl ?_
  rw [hop a.eval (fun x u hx => hf.eval hx)]
  simp only [OpUpon, hd]
  exact ⟨hio.trans hi, _, hf.none _, r⟩
theorem OpE.valueless {v : Value} {w' : World} (hd : o.dst = none)
    (hop : ∀ ρ : Operand → Value, (∀ x u, ev l x = some u → ρ x = u) → (o.semAt c.ro ρ).run c.P w = .ok (.value v) w') (r : K l w') (hio : io w' = io w := by rfl) : OpE c ds o l w K := by
  intro hi a hf
  refine .inl ?_
  rw [hop a.eval (fun x u hx => hf.eval hx)]
  simp only [OpUpon, hd]
  exact ⟨hio.trans hi, _, hf.none _, r⟩
theorem OpE.enter {d : Nat} {f : FuncId} {args : List Value} {w' : World} (hd : o.dst = some d) (hn : Nat.blt d c.n = true)
    (hop : ∀ ρ : Operand → Value, (∀ x u, ev l x = some u → ρ x = u) → (o.semAt c.ro ρ).run c.P w = .ok (.enter f args.toArray) w')
    (hc : FnC c.P f args w' fun v w'' => K ((d, v) :: l) w'') (hio : io w' = io w := by rfl) : OpE c ds o l w K := by
  intro hi a hf
  refine .inl ?_
  rw [hop a.eval (fun x u hx => hf.eval hx)]
  simp only [OpUpon, hd]
  exact Calls.mono hc fun e w'' x => by cases e <;> first | exact ⟨x.1.trans (hio.trans hi), _, hf.put hn _, x.2⟩ | exact x
theorem OpE.enter0 {f : FuncId} {args : List Value} {w' : World} (hd : o.dst = none)
    (hop : ∀ ρ : Operand → Value, (∀ x u, ev l x = some u → ρ x = u) → (o.semAt c.ro ρ).run c.P w = .ok (.enter f args.toArray) w')
    (hc : FnC c.P f args w' fun _ w'' => K l w'') (hio : io w' = io w := by rfl) : OpE c ds o l w K := by
  intro hi a hf
  refine .inl ?_
  rw [hop a.eval (fun x u hx => hf.eval hx)]
  simp only [OpUpon, hd]
  exact Calls.mono hc fun e w'' x => by cases e <;> first | exact ⟨x.1.trans (hio.trans hi), _, hf.none _, x.2⟩ | exact x
theorem OpE.reads {d : Nat} {v : Value} {kl : List (Nat × Obj)} (hd : o.dst = some d) (hn : Nat.blt d c.n = true) (h : Reads c.P o l kl v) (hk : Holds kl w) (r : K ((d, v) :: l) w) : OpE c ds o l w K :=
  OpE.value hd hn (h c.ro w hk) r
end

section
variable {c : Place} {ds : List Deferred} {k : List Item} {l : Env} {w : World} {ops : Array Oper} {rest : List Oper}
/-- The usual step: an operation that gives a value and reads some blocks. -/
theorem runO_rd {d : Nat} {p : Op} {ty : TypeId} {pos : String} {af : Array Edge} {v : Value} {kl : List (Nat × Obj)}
    (h : Reads c.P ⟨some d, p, ty, pos, af, none⟩ l kl v) (hk : Holds kl w) (hn : Nat.blt d c.n = true) (r : RunO c ds ops rest k ((d, v) :: l) w) : RunO c ds ops (⟨some d, p, ty, pos, af, none⟩ :: rest) k l w :=
  runO_op rfl (OpE.reads rfl hn h hk r)
theorem runO_rdg {d : Nat} {p : Op} {ty : TypeId} {pos : String} {af : Array Edge} {v : Value} {kl : List (Nat × Obj)} {g : Nat × Bool}
    (h : Reads c.P ⟨some d, p, ty, pos, af, some g⟩ l kl v) (hk : Holds kl w) (hn : Nat.blt d c.n = true) (hv : gval ops l g = some true) (r : RunO c ds ops rest k ((d, v) :: l) w) : RunO c ds ops (⟨some d, p, ty, pos, af, some g⟩ :: rest) k l w :=
  runO_op_g rfl hv (OpE.reads rfl hn h hk r)
end
/-! ### 9. Coming back -/
inductive RV (P : Program) (w : World) (l : Env) : List ResultVar → List Value → Prop
  | nil : RV P w l [] []
  | tmp {t : Nat} {v : Value} {rs : List ResultVar} {vs : List Value} (h : look t l = some v) (r : RV P w l rs vs) : RV P w l (.tmp t :: rs) (v :: vs)
  | cell {t : Nat} {ty : TypeId} {ad : Addr} {v : Value} {rs : List ResultVar} {vs : List Value} (h : look t l = some (.pointer (some ad))) (hr : (loadVar ty ad).run P w = .ok v w) (r : RV P w l rs vs) :
      RV P w l (.cell t ty :: rs) (v :: vs)
def retVal : List Value → Value
  | [v] => v
  | vs => .tuple vs.toArray

theorem getD_of_look {n : Nat} {l : Env} {ds : List Deferred} {a : Act} (hf : Fits n l ds a) {t : Nat} {v : Value} (h : look t l = some v) : a.tmps.getD t undef = v := by
  have := hf.agree t v h
  simp [Array.getD_eq_getD_getElem?, this]

theorem rv_mapM {P : Program} {w : World} {n : Nat} {l : Env} {ds : List Deferred} {a : Act} (hf : Fits n l ds a) : ∀ {rs : List ResultVar} {vs : List Value}, RV P w l rs vs →
    (rs.mapM (m := Sem) fun
      | .tmp t => pure (a.tmps.getD t undef)
      | .cell ad t => do loadVar t (← asAddr (a.tmps.getD ad undef))).run P w = .ok vs w
  | _, _, .nil => rfl
  | _, _, .tmp h r => by
    rw [List.mapM_cons, Sem.run_bind]
    simp only [getD_of_look hf h, Sem.run_pure, Result.andThen]
    rw [Sem.run_bind, rv_mapM hf r]
    simp [Result.andThen]
  | _, _, @RV.cell _ _ _ t ty ad v rs vs h hr r => by
    rw [List.mapM_cons, Sem.run_bind]
    have e1 : ((do let x ← asAddr (a.tmps.getD t undef); loadVar ty x) : Sem Value).run P w = .ok v w := by
      rw [getD_of_look hf h, Sem.run_bind]
      exact hr
    refine (congrArg (fun r => Result.andThen r _) e1).trans ?_
    simp only [Result.andThen]
    rw [Sem.run_bind, rv_mapM hf r]
    simp [Result.andThen]

theorem results_run {P : Program} {w : World} {n : Nat} {l : Env} {ds : List Deferred} {a : Act} (hf : Fits n l ds a) {fn : Func} {vs : List Value} (h : RV P w l fn.results.toList vs) :
    (results fn a.tmps).run P w = .ok (retVal vs) w := by
  have hm := rv_mapM hf h
  unfold results
  rw [Sem.run_bind]
  have : (fn.results.mapM (m := Sem) fun
      | .tmp t => pure (a.tmps.getD t undef)
      | .cell ad t => do loadVar t (← asAddr (a.tmps.getD ad undef))).run P w = .ok vs.toArray w := by
    rw [Array.mapM_eq_mapM_toList, Sem.run_map, hm]; rfl
  refine (congrArg (fun r => Result.andThen r _) this).trans ?_
  simp only [Result.andThen]
  rcases vs with _ | ⟨v, _ | ⟨u, vs⟩⟩ <;> simp [retVal, Sem.run_pure]

/-- Where a function's frame is to arrive: it is about to return. -/
def RetF (P : Program) (f : FuncId) (cs : List Frame) (i0 : Os × Array (Nat × ByteArray)) (R : Value → World → Prop) (m : Machine) : Prop :=
  ∃ v w fr, m = lone fr cs w ∧ (io w = i0 ∧ R v w) ∧ fr.fn = f ∧ fr.leaving P w (.returned v)

/-- A call, out of its body. -/
theorem fnC_of_run {P : Program} {f n : Nat} {fn : Func} {x : Code} {args : List Value} {w : World} {R : Value → World → Prop}
    (hf : P.funcs[f]? = some fn) (hb : fn.body = some x) (hn : fn.ntmps = n) (hle : args.length ≤ n)
    (h : ∀ cs, Run ⟨P, none, f, n, cs, io w, RetF P f cs (io w) R⟩ [] [.code x] (argsEnv 0 args) w) : FnC P f args w R := by
  intro cs
  let b : Frame := { (default : Frame) with fn := f, kind := .normal, roundOf := none }
  have henter : Frame.enter P f args.toArray .normal =
      b.atR { tmps := args.toArray ++ Array.replicate (n - args.toArray.size) undef, defers := [] } [.code x] := by
    simp [Frame.enter, Frame.atR, hf, hb, hn, b]
  have := h cs rfl b _ rfl rfl rfl (fits_enter args n hle)
  rw [← henter] at this
  rcases this with o | ⟨m', hs, v, w', fr, rfl, hR, hfn, hl⟩
  · exact o.elim
  · exact ⟨.returned v, w', fr, hR, hs, hfn, hl⟩

section
variable {P : Program} {f n : Nat} {cs : List Frame} {R : Value → World → Prop} {fn : Func} {k : List Item} {l : Env} {w : World} {vs : List Value} {i0 : Os × Array (Nat × ByteArray)}
theorem leave_now (hio : io w = i0) (hf : P.funcs[f]? = some fn) (hv : RV P w l fn.results.toList vs) (hR : R (retVal vs) w) {b : Frame} {a : Act} (h2 : b.fn = f) (h3 : b.kind = .normal) (hfit : Fits n l [] a) {todo : List Item} :
    RetF P f cs i0 R (lone { b.atR a todo with mode := .returning } cs w) :=
  ⟨retVal vs, w, _, rfl, ⟨hio, hR⟩, h2, rfl, hfit.defers, h3, fn, by simp only [Frame.atR]; rw [h2]; exact hf, results_run hfit hv⟩
theorem run_ret (hf : P.funcs[f]? = some fn) (hv : RV P w l fn.results.toList vs) (hR : R (retVal vs) w) : Run ⟨P, none, f, n, cs, i0, RetF P f cs i0 R⟩ [] (.code .ret :: k) l w :=
  fun hi b a h1 h2 h3 hfit => (Reach.now (leave_now hi hf hv hR h2 h3 hfit)).step (stepR_ret h1)
theorem run_end (hf : P.funcs[f]? = some fn) (hv : RV P w l fn.results.toList vs) (hR : R (retVal vs) w) : Run ⟨P, none, f, n, cs, i0, RetF P f cs i0 R⟩ [] [] l w :=
  fun hi b a h1 h2 h3 hfit => (Reach.now (leave_now hi hf hv hR h2 h3 hfit)).step (stepR_end h1)
end

/-! ### 10. Regions that draw their order -/
section
variable {P : Program} {ro : Option Nat} {ops : Array Oper} {S : World → Prop} {Z : Act → World → Prop} {last : Nat}

def rdy (ops : Array Oper) (listed : Array Bool) : List Nat := Region.ready .any ops listed

/-- Operation number i comes up. -/
def OpI (P : Program) (ro : Option Nat) (ops : Array Oper) (i : Nat) (a : Act) (w : World) (K : Act → World → Prop) : Prop :=
  match ops[i]? with
  | none => K a w
  | some o => OpG P ro ops o a w K
theorem OpI.mono {i : Nat} {a : Act} {w : World} {K K' : Act → World → Prop} (h : OpI P ro ops i a w K) (hk : ∀ a w, K a w → K' a w) : OpI P ro ops i a w K' := by
  unfold OpI at *
  split
  · rename_i ho; simp only [ho] at h; exact hk _ _ h
  · rename_i o ho; simp only [ho] at h; exact h.mono hk

/-- Whatever order is picked from here on; S holds behind each but the last one. -/
def Any (P : Program) (ro : Option Nat) (ops : Array Oper) (last : Nat) (S : World → Prop) (Z : Act → World → Prop) : Nat → Array Bool → Act → World → Prop
  | 0, listed, a, w => rdy ops listed = [] ∧ Z a w
  | fuel + 1, listed, a, w =>
    (rdy ops listed = [] → Z a w) ∧
    ∀ i ∈ rdy ops listed, OpI P ro ops i a w fun a' w' => (i ≠ last → S w') ∧ Any P ro ops last S Z fuel (listed.setIfInBounds i true) a' w'

theorem any_sound {F : Machine → Prop} {b : Frame} {k : List Item} {cs : List Frame} (hb : b.kind = .normal) (hro : b.roundOf = ro)
    (hZ : ∀ a w, Z a w → Reach P F (lone (b.atR a k) cs w)) : ∀ (fuel t : Nat) (listed : Array Bool) (a : Act) (w : World), Any P ro ops last S Z fuel listed a w →
    Reach P F (lone (b.atR a (.inRegion ops (Region.linearise.go .any ops fuel t listed []) :: k)) cs w) := by
  intro fuel
  induction fuel with
  | zero => intro t listed a w h; exact (hZ _ _ h.2).step (by simp only [Region.linearise.go, List.reverse_nil]; exact stepR_region_end)
  | succ fuel ih =>
    intro t listed a w h
    obtain ⟨h0, h1⟩ := h
    simp only [Region.linearise.go]
    change Reach P F (lone (b.atR a (.inRegion ops (match (Region.ready .any ops listed)[t % (Region.ready .any ops listed).length]? with
      | some i => Region.linearise.go .any ops fuel (t / (Region.ready .any ops listed).length) (listed.setIfInBounds i true) [i]
      | none => [].reverse) :: k)) cs w)
    cases hi : (Region.ready .any ops listed)[t % (Region.ready .any ops listed).length]? with
    | none =>
      have hnil : Region.ready .any ops listed = [] := by
        cases hr : Region.ready .any ops listed with
        | nil => rfl
        | cons x xs =>
          rw [hr] at hi
          have hlt : t % (x :: xs).length < (x :: xs).length := Nat.mod_lt _ (by simp)
          simp at hi
          simp at hlt
          omega
      exact (hZ _ _ (h0 hnil)).step (by simp only [List.reverse_nil]; exact stepR_region_end)
    | some i =>
      simp only []
      rw [linearise_go_acc, List.reverse_singleton, List.singleton_append]
      have hmem := List.mem_of_getElem? hi
      have hop := h1 i hmem
      obtain ⟨_, o, ho, _⟩ := mem_ready.1 hmem
      simp only [OpI, ho] at hop
      refine reach_op ho hb ?_
      rw [hro]
      exact hop.mono fun a' w' h' => ih _ _ _ _ h'.2

/-- It gives v in every world that meets S, and does nothing else. -/
def Gives (P : Program) (ro : Option Nat) (ops : Array Oper) (S : World → Prop) (o : Oper) (v : Value) (a : Act) : Prop :=
  (Region.wanted o (yielded ops a.tmps) = true ∧ ∀ w, S w → (o.semAt ro a.eval).run P w = .ok (.value v) w) ∨
  (Region.wanted o (yielded ops a.tmps) = false ∧ v = undef)
theorem Gives.opI {i : Nat} {o : Oper} {v : Value} {a : Act} (hi : ops[i]? = some o) (hy : Gives P ro ops S o v a) {K : Act → World → Prop} {w : World} (hS : S w) (h : K (a.put o.dst v) w) : OpI P ro ops i a w K := by
  unfold OpI OpG OpW
  simp only [hi]
  rcases hy with ⟨hw, hv⟩ | ⟨hw, rfl⟩
  · simp only [hw, if_true, hv w hS, OpUpon]; exact .inl h
  · simp only [hw, Bool.false_eq_true, if_false]; exact h
theorem Gives.of_same {o : Oper} {v : Value} {a a' : Act} (hy : Gives P ro ops S o v a) (he : o.semAt ro a'.eval = o.semAt ro a.eval)
    (hw : Region.wanted o (yielded ops a'.tmps) = Region.wanted o (yielded ops a.tmps)) : Gives P ro ops S o v a' := by
  unfold Gives at *
  rw [he, hw]
  exact hy
theorem semAt_put (o : Oper) (hs : ∀ cs b, o.op ≠ .select cs b) (a : Act) (dst : Option Tmp) (v : Value) (h : ∀ d, dst = some d → d ∉ o.looksAt ops) :
    o.semAt ro (a.put dst v).eval = o.semAt ro a.eval := by
  have he := execOp_put (ops := ops) o hs a dst v h
  unfold Oper.semAt
  split
  · rename_i l c hc
    have : resolve (a.put dst v).eval c o.type = resolve a.eval c o.type := resolve_congr c _ fun x hx => Act.eval_put fun d hd hxd => h d hd (by
      subst hxd
      exact List.mem_append_left _ (List.mem_filterMap.2 ⟨.tmp d, by rw [hc]; simpa [Op.operands] using hx, rfl⟩))
    rw [this]
  · exact he

theorem opI_put {j : Nat} {oi oj : Oper} {v : Value} (hj : ops[j]? = some oj) (hap : oi.apart ops oj = true)
    (hsi : ∀ cs b, oi.op ≠ .select cs b) (hsj : ∀ cs b, oj.op ≠ .select cs b) {K : Act → World → Prop} {a : Act} {w : World}
    (hy : Gives P ro ops S oi v a) (h : OpI P ro ops j (a.put oi.dst v) w K) :
    OpI P ro ops j a w (fun a' w' => Gives P ro ops S oi v a' ∧ K (a'.put oi.dst v) w') := by
  obtain ⟨h1, h2, h3⟩ := Oper.apart_spec hap
  have keep : ∀ (a : Act), Gives P ro ops S oi v a → ∀ u, Gives P ro ops S oi v (a.put oj.dst u) := fun a hy u =>
    hy.of_same (semAt_put oi hsi a oj.dst u h3) (wanted_put oi a oj.dst u h3)
  unfold OpI OpG at *
  simp only [hj] at *
  rw [wanted_put oj a oi.dst v h1] at h
  split
  · rename_i hw
    simp only [hw, if_true] at h
    unfold OpW OpAsks at *
    rw [semAt_put oj hsj a oi.dst v h1] at h
    rcases h with h | h
    · refine .inl ?_
      generalize (oj.semAt ro a.eval).run P w = r at *
      cases r with
      | ok n w' =>
        cases n <;> simp only [OpUpon] at h ⊢
        case value u => exact ⟨keep a hy u, by rw [← Act.put_comm a v u h2]; exact h⟩
        case skip => exact ⟨keep a hy _, by rw [← Act.put_comm a v undef h2]; exact h⟩
        case enter f args => exact Calls.mono h fun e w'' he => by cases e <;> first | exact ⟨keep a hy _, by rw [← Act.put_comm a v _ h2]; exact he⟩ | exact he
        case round l f tmps assign body => exact RoundC.mono h fun u w'' he => ⟨keep a hy u, by rw [← Act.put_comm a v u h2]; exact he⟩
      | halt x w' => simp only [OpUpon] at h
    · exact .inr h
  · rename_i hw
    simp only [hw] at h
    exact ⟨keep a hy _, by rw [← Act.put_comm a v undef h2]; exact h⟩

/-- What has come up: with it all that it waited for. -/
def Clo (ops : Array Oper) (listed : Array Bool) : Prop :=
  listed.size = ops.size ∧ ∀ (j : Nat) (oj : Oper), ops[j]? = some oj → listed.getD j false = true → ∀ e ∈ oj.after, Region.binds .any e = true → listed.getD e.on false = true
def waits (ops : Array Oper) (j i : Nat) : Bool :=
  match ops[j]? with
  | some oj => oj.after.any fun e => Region.binds .any e && e.on == i
  | none => false
/-- Whatever some of A wait for. -/
def ancs (ops : Array Oper) : Nat → List Nat → List Nat
  | 0, A => A
  | m + 1, A => ancs ops m ((List.range ops.size).filter fun i => A.contains i || A.any fun j => waits ops j i)
/-- The last one waits for all others. -/
def sinkOk (ops : Array Oper) (last m : Nat) : Bool := (List.range ops.size).all fun i => (ancs ops m [last]).contains i
theorem waits_spec {j i : Nat} (h : waits ops j i = true) : ∃ oj, ops[j]? = some oj ∧ ∃ e ∈ oj.after, Region.binds .any e = true ∧ e.on = i := by
  unfold waits at h
  split at h
  · rename_i oj hj
    obtain ⟨e, he, hb⟩ := Array.any_eq_true'.1 h
    simp only [Bool.and_eq_true, beq_iff_eq] at hb
    exact ⟨oj, hj, e, he, hb.1, hb.2⟩
  · cases h
theorem getD_off {listed : Array Bool} {i : Nat} (h : listed.getD i true = false) : listed.getD i false = false := by
  rcases Nat.lt_or_ge i listed.size with h' | h'
  · simp [h'] at h ⊢; exact h
  · simp [Array.getElem?_eq_none h'] at h
theorem ancs_listed {listed : Array Bool} (hc : Clo ops listed) (hr : last ∈ rdy ops listed) : ∀ (m : Nat) (A : List Nat), (∀ i ∈ A, i = last ∨ listed.getD i false = true) → ∀ i ∈ ancs ops m A, i = last ∨ listed.getD i false = true
  | 0, _, h => h
  | m + 1, A, h => ancs_listed hc hr m _ fun i hi => by
    obtain ⟨_, hi⟩ := List.mem_filter.1 hi
    simp only [Bool.or_eq_true, List.any_eq_true] at hi
    rcases hi with hi | ⟨j, hj, hw⟩
    · exact h i (by simpa using hi)
    · obtain ⟨oj, hoj, e, he, hb, hon⟩ := waits_spec hw
      rcases h j hj with rfl | hl
      · obtain ⟨_, o', ho', hall⟩ := mem_ready.1 hr
        have : o' = oj := Option.some.inj (ho'.symm.trans hoj)
        subst this
        exact .inr (hon ▸ hall e he hb)
      · exact .inr (hon ▸ hc.2 j oj hoj hl e he hb)
theorem not_last {listed : Array Bool} {i j m : Nat} (hs : sinkOk ops last m = true) (hc : Clo ops listed) (hi : i ∈ rdy ops listed) (hj : j ∈ rdy ops listed) (hil : i ≠ last) : j ≠ last := by
  rintro rfl
  obtain ⟨hiun, oi, hoi, _⟩ := mem_ready.1 hi
  have hisz : i < ops.size := (Array.getElem?_eq_some_iff.1 hoi).1
  have h1 : i ∈ ancs ops m [j] := by simpa using List.all_eq_true.1 hs i (List.mem_range.2 hisz)
  rcases ancs_listed hc hj m [j] (by simp) i h1 with h | h
  · exact hil h
  · rw [getD_off hiun] at h; cases h
theorem Clo.set {listed : Array Bool} {i : Nat} (hc : Clo ops listed) (hi : i ∈ rdy ops listed) : Clo ops (listed.setIfInBounds i true) := by
  obtain ⟨_, oi, hoi, hall⟩ := mem_ready.1 hi
  refine ⟨by simp [hc.1], fun j oj hj hl e he hb => ?_⟩
  have set_true : ∀ k, listed.getD k false = true → (listed.setIfInBounds i true).getD k false = true := fun k hk => by
    by_cases hik : i = k
    · subst hik
      have : i < listed.size := by rw [hc.1]; exact (Array.getElem?_eq_some_iff.1 hoi).1
      simp [this]
    · rw [getD_set_ne false hik]; exact hk
  by_cases hij : i = j
  · subst hij
    have : oj = oi := Option.some.inj (hj.symm.trans hoi)
    subst this
    exact set_true _ (hall e he hb)
  · rw [getD_set_ne false hij] at hl
    exact set_true _ (hc.2 j oj hj hl e he hb)

/-- What may come up now and gives its value wherever S holds may be taken first. -/
theorem any_first {i : Nat} {oi : Oper} {v : Value} (hi : ops[i]? = some oi) {m : Nat} (hil : i ≠ last) (hsink : sinkOk ops last m = true) (hsel : ∀ (j : Nat) (o : Oper) cs b, ops[j]? = some o → o.op ≠ .select cs b) :
    ∀ (fuel : Nat) (listed : Array Bool) (a : Act) (w : World), Clo ops listed →
      (∀ j oj, ops[j]? = some oj → j ≠ i → listed.getD j true = false → (∀ e ∈ oj.after, Region.binds .any e = true → e.on ≠ i) → oi.apart ops oj = true) →
      i ∈ rdy ops listed → Gives P ro ops S oi v a → S w →
      Any P ro ops last S Z fuel (listed.setIfInBounds i true) (a.put oi.dst v) w → Any P ro ops last S Z (fuel + 1) listed a w := by
  intro fuel
  induction fuel with
  | zero =>
    intro listed a w _ _ hr hy hS H
    refine ⟨fun h => (by rw [h] at hr; cases hr), fun j hj => ?_⟩
    by_cases hji : j = i
    · subst hji; exact hy.opI hi hS ⟨fun _ => hS, H⟩
    · have := ready_mono hj hji
      rw [show Region.ready .any ops (listed.setIfInBounds i true) = [] from H.1] at this
      cases this
  | succ fuel ih =>
    intro listed a w hc hfree hr hy hS H
    refine ⟨fun h => (by rw [h] at hr; cases hr), fun j hj => ?_⟩
    by_cases hji : j = i
    · subst hji; exact hy.opI hi hS ⟨fun _ => hS, H⟩
    · have hjl : j ≠ last := not_last hsink hc hr hj hil
      have h1 := H.2 j (ready_mono hj hji)
      obtain ⟨hjun, oj, hoj, hall⟩ := mem_ready.1 hj
      have hnot : ∀ e ∈ oj.after, Region.binds .any e = true → e.on ≠ i := fun e he hb heq => by
        have h1 := hall e he hb
        have h0 := (mem_ready.1 hr).1
        rw [heq] at h1
        rcases Nat.lt_or_ge i listed.size with h' | h'
        · simp [h'] at h0 h1; rw [h0] at h1; cases h1
        · simp [Array.getElem?_eq_none h'] at h1
      have h2 := opI_put hoj (hfree j oj hoj hji hjun hnot) (fun cs b => hsel i oi cs b hi) (fun cs b => hsel j oj cs b hoj) hy h1
      have hfree' : ∀ k ok, ops[k]? = some ok → k ≠ i → (listed.setIfInBounds j true).getD k true = false →
          (∀ e ∈ ok.after, Region.binds .any e = true → e.on ≠ i) → oi.apart ops ok = true := fun k ok hk hki hun hno => by
        refine hfree k ok hk hki ?_ hno
        by_cases hjk : j = k
        · subst hjk; exact hjun
        · rw [getD_set_ne true hjk] at hun; exact hun
      refine OpI.mono h2 fun a' w' h3 => ⟨h3.2.1, ih (listed.setIfInBounds j true) a' w' (hc.set hj) hfree' (ready_mono hr (Ne.symm hji)) h3.1 (h3.2.1 hjl) ?_⟩
      rw [Array.setIfInBounds_comm _ _ hji]
      exact h3.2.2
end

/-! A plan: the order in which such a region is walked: (number, is it taken first?). -/
def planOk (ops : Array Oper) (last : Nat) : List (Nat × Bool) → Array Bool → Bool
  | [], listed => (Region.ready .any ops listed).isEmpty
  | (i, true) :: r, listed => !(i == last) && (Region.ready .any ops listed).contains i && Region.free .any ops listed i && planOk ops last r (listed.setIfInBounds i true)
  | (i, false) :: r, listed => Region.ready .any ops listed == [i] && (i == last) == r.isEmpty && planOk ops last r (listed.setIfInBounds i true)
def planAll (ops : Array Oper) (last m : Nat) (pl : List (Nat × Bool)) : Bool :=
  Region.noSelect ops && pl.length == ops.size && planOk ops last pl (Array.replicate ops.size false) && sinkOk ops last m

/-- The walk of a region that draws: along the plan. -/
def RunD (c : Place) (ds : List Deferred) (ops : Array Oper) (kl : List (Nat × Obj)) : List (Oper × Bool) → List Item → Env → World → Prop
  | [], k, l, w => Run c ds k l w
  | (o, true) :: r, k, l, w => Holds kl w ∧
    ((∃ d v, (o.guard = none ∨ ∃ g, o.guard = some g ∧ gval ops l g = some true) ∧ o.dst = some d ∧ Nat.blt d c.n = true ∧ Reads c.P o l kl v ∧ RunD c ds ops kl r k ((d, v) :: l) w) ∨
     (∃ g d, o.guard = some g ∧ gval ops l g = some false ∧ o.dst = some d ∧ Nat.blt d c.n = true ∧ RunD c ds ops kl r k ((d, undef) :: l) w))
  | (o, false) :: r, k, l, w =>
    ((o.guard = none ∨ ∃ g, o.guard = some g ∧ gval ops l g = some true) ∧ OpE c ds o l w fun l' w' => (r ≠ [] → Holds kl w') ∧ RunD c ds ops kl r k l' w') ∨
    (∃ g d, o.guard = some g ∧ gval ops l g = some false ∧ o.dst = some d ∧ Nat.blt d c.n = true ∧ (r ≠ [] → Holds kl w) ∧ RunD c ds ops kl r k ((d, undef) :: l) w)

theorem wanted_or {ops : Array Oper} {l : Env} {o : Oper} {n : Nat} {ds : List Deferred} {a : Act} (hf : Fits n l ds a) (h : o.guard = none ∨ ∃ g, o.guard = some g ∧ gval ops l g = some true) : Region.wanted o (yielded ops a.tmps) = true := by
  rcases h with h | ⟨g, hg, hv⟩
  · simp [Region.wanted, h]
  · exact wanted_of_gval hg hf hv

theorem runD_any {c : Place} {ds : List Deferred} {ops : Array Oper} {kl : List (Nat × Obj)} {k : List Item} {last m : Nat} (hsel : Region.noSelect ops = true) (hsink : sinkOk ops last m = true) :
    ∀ (pl : List (Nat × Bool)) (ol : List (Oper × Bool)) (listed : Array Bool) (l : Env) (w : World) (a : Act), Clo ops listed →
      pl.map (fun p => (ops[p.1]?, p.2)) = ol.map (fun p => (some p.1, p.2)) → planOk ops last pl listed = true →
      Fits c.n l ds a → io w = c.io → RunD c ds ops kl ol k l w →
      Any c.P c.ro ops last (Holds kl) (fun a' w' => io w' = c.io ∧ ∃ l', Fits c.n l' ds a' ∧ Run c ds k l' w') pl.length listed a w
  | [], ol, listed, l, w, a, _, hm, hp, hf, hio, h => by
    have : ol = [] := by cases ol <;> simp_all
    subst this
    exact ⟨by simpa [planOk, rdy] using hp, hio, l, hf, h⟩
  | (i, t) :: pl, ol, listed, l, w, a, hc, hm, hp, hf, hio, h => by
    obtain ⟨o, t', ol', rfl⟩ : ∃ o t ol', ol = (o, t) :: ol' := by
      cases ol with
      | nil => simp at hm
      | cons x y => exact ⟨x.1, x.2, y, rfl⟩
    simp only [List.map_cons, List.cons.injEq, Prod.mk.injEq] at hm
    obtain ⟨⟨ho, rfl⟩, hm⟩ := hm
    cases t with
    | true =>
      simp only [planOk, Bool.and_eq_true, Bool.not_eq_true', beq_eq_false_iff_ne] at hp
      obtain ⟨⟨⟨hil, hr⟩, hfr⟩, hp⟩ := hp
      have hri : i ∈ rdy ops listed := by simpa [rdy] using hr
      simp only [RunD] at h
      obtain ⟨hk, ⟨d, v, hg, hd, hn, hrd, h⟩ | ⟨g, d, hg, hv, hd, hn, h⟩⟩ := h
      · refine any_first (v := v) ho hil hsink (Region.noSelect_spec hsel) _ _ _ _ hc (Region.free_spec ho hfr) hri (.inl ⟨wanted_or hf hg, fun w' hw' => hrd c.ro w' hw' a.eval fun x u hx => hf.eval hx⟩) hk ?_
        rw [hd]
        exact runD_any hsel hsink pl ol' _ _ _ _ (hc.set hri) hm hp (hf.put hn v) hio h
      · refine any_first (v := undef) ho hil hsink (Region.noSelect_spec hsel) _ _ _ _ hc (Region.free_spec ho hfr) hri (.inr ⟨wanted_of_gval hg hf hv, rfl⟩) hk ?_
        rw [hd]
        exact runD_any hsel hsink pl ol' _ _ _ _ (hc.set hri) hm hp (hf.put hn _) hio h
    | false =>
      simp only [planOk, Bool.and_eq_true, beq_iff_eq] at hp
      obtain ⟨⟨hr, hlast⟩, hp⟩ := hp
      have hri : i ∈ rdy ops listed := by simp [rdy, hr]
      have hne : i ≠ last → ol' ≠ [] := fun hil e => by
        subst e
        have : pl = [] := by cases pl <;> simp_all
        subst this
        simp at hlast
        exact hil hlast
      refine ⟨fun h0 => (by rw [rdy, hr] at h0; cases h0), fun j hj => ?_⟩
      have : j = i := by rw [rdy, hr] at hj; simpa using hj
      subst this
      unfold OpI OpG
      simp only [ho]
      simp only [RunD] at h
      rcases h with ⟨hg, h⟩ | ⟨g, d, hg, hv, hd, hn, hk, h⟩
      · rw [if_pos (wanted_or hf hg)]
        exact (h hio a hf).mono fun a' w' ⟨e, l', hf', hk', h'⟩ => ⟨fun hil => hk' (hne hil), runD_any hsel hsink pl ol' _ _ _ _ (hc.set hri) hm hp hf' e h'⟩
      · rw [if_neg (by rw [wanted_of_gval hg hf hv]; simp), hd]
        exact ⟨fun hil => hk (hne hil), runD_any hsel hsink pl ol' _ _ _ _ (hc.set hri) hm hp (hf.put hn _) hio h⟩

theorem run_draw {c : Place} {ds : List Deferred} {ops : Array Oper} {id : Nat} {k : List Item} {l : Env} {w : World} (kl : List (Nat × Obj)) (last m : Nat) (pl : List (Nat × Bool)) (ol : List (Oper × Bool))
    (hmix : c.P.follows .mixedOrders = true) (hp : planAll ops last m pl = true) (hm : pl.map (fun p => (ops[p.1]?, p.2)) = ol.map (fun p => (some p.1, p.2)))
    (h : RunD c ds ops kl ol k l { w with drawn := w.drawn + 1 }) : Run c ds (.code (.region id ops true) :: k) l w := by
  intro hi b a h1 h2 h3 hf
  simp only [planAll, Bool.and_eq_true, beq_iff_eq] at hp
  obtain ⟨⟨⟨hsel, hlen⟩, hpl⟩, hsink⟩ := hp
  have hc : Clo ops (Array.replicate ops.size false) := by
    refine ⟨by simp, fun j oj hj hl => ?_⟩
    have : j < ops.size := (Array.getElem?_eq_some_iff.1 hj).1
    simp [this] at hl
  have := runD_any hsel hsink pl ol (Array.replicate ops.size false) l { w with drawn := w.drawn + 1 } a hc hm hpl hf hi h
  refine (any_sound (F := c.F) (cs := c.cs) (k := k) h3 h1 (fun a' w' ⟨e, l', hf', hr'⟩ => hr' e b a' h1 h2 h3 hf') _ (w.tape w.drawn (.order b.fn id)) _ _ _ this).step ?_
  rw [stepR_region_draw]
  simp only [Region.schedule, hmix, Bool.true_or, if_true, Region.linearise, hlen]
/-! ### 11. Types -/
/-- Type t: its description, its cells, its bytes, its zero. -/
def Ty (P : Program) (t : Nat) (d : TypeDesc) (size bytes : Nat) (zero : Value) : Prop :=
  P.underlying t = some d ∧ (P.info? t).map (fun i => (i.size, i.bytes, i.zero)) = some (size, bytes, some zero)
section
variable {P : Program} {t : Nat} {d : TypeDesc} {size bytes : Nat} {zero : Value}
theorem Ty.mk (h : (P.underlying t, (P.info? t).map (fun i => (i.size, i.bytes, i.zero))) = (some d, some (size, bytes, some zero))) : Ty P t d size bytes zero := by
  simpa [Ty] using h
theorem Ty.und (h : Ty P t d size bytes zero) (w : World) : (underlying t).run P w = .ok d w := by
  simp [underlying, program, Sem.run, h.1]
/-- Type t: its cells, its bytes, its zero. -/
def Sz (P : Program) (t : Nat) (size bytes : Nat) (zero : Value) : Prop := (P.info? t).map (fun i => (i.size, i.bytes, i.zero)) = some (size, bytes, some zero)
theorem Ty.sz (h : Ty P t d size bytes zero) : Sz P t size bytes zero := h.2
theorem Sz.info (h : Sz P t size bytes zero) (w : World) : ∃ i : TypeInfo, P.info? t = some i ∧ (typeInfo t).run P w = .ok i w ∧ i.size = size ∧ i.bytes = bytes ∧ i.zero = some zero := by
  unfold Sz at h
  cases hi : P.info? t with
  | none => rw [hi] at h; cases h
  | some i =>
    rw [hi] at h
    simp only [Option.map_some, Option.some.injEq, Prod.mk.injEq] at h
    exact ⟨i, rfl, by simp [typeInfo, program, Sem.run, hi], h.1, h.2.1, h.2.2⟩
theorem Sz.siz (h : Sz P t size bytes zero) (w : World) : (sizeOf t).run P w = .ok size w := by
  obtain ⟨i, _, e, e1, _⟩ := h.info w
  simp [sizeOf, e, e1]
theorem Sz.zer (h : Sz P t size bytes zero) (w : World) : (zeroValue t).run P w = .ok zero w := by
  obtain ⟨i, _, e, _, _, e1⟩ := h.info w
  simp [zeroValue, e, e1]
/-- Is it a struct or an array? -/
def aggD : TypeDesc → Bool
  | .struct _ | .array _ _ => true
  | _ => false
theorem Ty.agg (h : Ty P t d size bytes zero) (w : World) : (isAgg t).run P w = .ok (aggD d) w := by
  simp only [isAgg, Sem.run_bind, h.und, Result.andThen_ok]
  cases d <;> rfl
/-- A struct's or an array's type. -/
def TyG (P : Program) (t : Nat) (size bytes : Nat) (zero : Value) : Prop := (P.underlying t).map aggD = some true ∧ Sz P t size bytes zero
theorem TyG.mk (h : ((P.underlying t).map aggD, (P.info? t).map (fun i => (i.size, i.bytes, i.zero))) = (some true, some (size, bytes, some zero))) : TyG P t size bytes zero := by
  simpa [TyG, Sz] using h
theorem TyG.sz (h : TyG P t size bytes zero) : Sz P t size bytes zero := h.2
theorem TyG.agg (h : TyG P t size bytes zero) (w : World) : (isAgg t).run P w = .ok true w := by
  obtain ⟨h, _⟩ := h
  cases hu : P.underlying t with
  | none => rw [hu] at h; cases h
  | some d =>
    rw [hu] at h
    simp only [Option.map_some, Option.some.injEq] at h
    simp only [isAgg, Sem.run_bind, underlying, program, Sem.run, hu, Result.andThen_ok]
    cases d <;> first | rfl | cases h
/-- Field i of the struct type s: its place, its type. -/
def fld (P : Program) (s i : Nat) : Option (Nat × Nat) :=
  match P.underlying s with
  | some (.struct fs) => (fs[i]?).map fun f => (f.offset, f.type)
  | _ => none
theorem fld_spec {s i o u : Nat} (h : fld P s i = some (o, u)) : ∃ fs f, P.underlying s = some (.struct fs) ∧ fs[i]? = some f ∧ f.offset = o ∧ f.type = u := by
  unfold fld at h
  split at h
  · rename_i fs hfs
    cases hf : fs[i]? with
    | none => rw [hf] at h; cases h
    | some f => rw [hf] at h; simp at h; exact ⟨fs, f, hfs, hf, h.1, h.2⟩
  · cases h
theorem und_run {t : Nat} {d : TypeDesc} (h : P.underlying t = some d) (w : World) : (underlying t).run P w = .ok d w := by
  simp [underlying, program, Sem.run, h]
end

/-! ### 12. Operations that read -/
section
variable {P : Program} {l : Env} {dst : Option Tmp} {ty : TypeId} {pos : String} {af : Array Edge} {g : Option (Nat × Bool)} {x y z : Operand}

theorem rd_move {v : Value} (h : ev l x = some v) : Reads P ⟨dst, .move x, ty, pos, af, g⟩ l [] v := by
  intro ro w _ ρ hρ
  rw [Oper.semAt_eq _ _ _ (by intro c; simp)]
  simp [execOp, hρ _ _ h]
theorem rd_assign {v : Value} (h : ev l x = some v) : Reads P ⟨dst, .assign x, ty, pos, af, g⟩ l [] v := by
  intro ro w _ ρ hρ
  rw [Oper.semAt_eq _ _ _ (by intro c; simp)]
  simp [execOp, hρ _ _ h]
theorem rd_pick_t {v : Value} (h : ev l x = some (.bool true)) (hy : ev l y = some v) : Reads P ⟨dst, .pick x y z, ty, pos, af, g⟩ l [] v := by
  intro ro w _ ρ hρ
  rw [Oper.semAt_eq _ _ _ (by intro c; simp)]
  simp [execOp, hρ _ _ h, hρ _ _ hy, asBool]
theorem rd_pick_f {v : Value} (h : ev l x = some (.bool false)) (hy : ev l z = some v) : Reads P ⟨dst, .pick x y z, ty, pos, af, g⟩ l [] v := by
  intro ro w _ ρ hρ
  rw [Oper.semAt_eq _ _ _ (by intro c; simp)]
  simp [execOp, hρ _ _ h, hρ _ _ hy, asBool]
theorem rd_nil {a : Addr} (h : ev l x = some (.pointer (some a))) : Reads P ⟨dst, .nilCheck x, ty, pos, af, g⟩ l [] (.pointer (some a)) := by
  intro ro w _ ρ hρ
  rw [Oper.semAt_eq _ _ _ (by intro c; simp)]
  simp [execOp, hρ _ _ h]
theorem rd_nilF {f : Nat} {fi ca : Array Value} (h : ev l x = some (.func (.func f) fi ca)) : Reads P ⟨dst, .nilCheck x, ty, pos, af, g⟩ l [] (.func (.func f) fi ca) := by
  intro ro w _ ρ hρ
  rw [Oper.semAt_eq _ _ _ (by intro c; simp)]
  simp [execOp, hρ _ _ h]
theorem rd_nilY {f : Nat} {fi ca : Array Value} (h : ev l x = some (.func (.yield f) fi ca)) : Reads P ⟨dst, .nilCheck x, ty, pos, af, g⟩ l [] (.func (.yield f) fi ca) := by
  intro ro w _ ρ hρ
  rw [Oper.semAt_eq _ _ _ (by intro c; simp)]
  simp [execOp, hρ _ _ h]
theorem rd_func {fn : Fn} {fi ca : Array Operand} {fv cv : Array Value} (hf : fi.map (ev l) = fv.map some) (hc : ca.map (ev l) = cv.map some) : Reads P ⟨dst, .makeFunc fn fi ca, ty, pos, af, g⟩ l [] (.func fn fv cv) := by
  intro ro w _ ρ hρ
  rw [Oper.semAt_eq _ _ _ (by intro c; simp)]
  have key : ∀ {o : Array Operand} {v : Array Value}, o.map (ev l) = v.map some → o.map ρ = v := by
    intro o v h
    apply Array.ext
    · have := congrArg Array.size h; simpa using this
    · intro i h1 h2
      have := congrArg (fun a => a[i]?) h
      simp at h1
      simp [h1, h2] at this
      simpa using hρ _ _ this
  simp [execOp, key hf, key hc, Instr.makeFunc]

/-! whole numbers -/
def i64ok (n : Int) : Prop := -9223372036854775808 ≤ n ∧ n ≤ 9223372036854775807
theorem wrap_id {n : Int} (h : i64ok n) : IntKind.i64.wrap n = n := by
  obtain ⟨h1, h2⟩ := h
  simp only [IntKind.wrap, IntKind.bits, IntKind.signed]
  simp only [show (2 : Int) ^ 64 = 18446744073709551616 from rfl, show (2 : Int) ^ (64 - 1) = 9223372036854775808 from rfl, Bool.true_and, decide_eq_true_eq]
  split <;> omega

theorem rd_bin {op : BinOp} {t u : TypeId} {k : IntKind} {a b : Int} {v : Value} (hx : ev l x = some (.int k a)) (hy : ev l y = some (.int k b))
    (h : ∀ w, (binOp op t (.int k a) (.int k b)).run P w = .ok v w) : Reads P ⟨dst, .binOp op t x y u, ty, pos, af, g⟩ l [] v := by
  intro ro w _ ρ hρ
  rw [Oper.semAt_eq _ _ _ (by intro c; simp)]
  have : (eqGuard op t x y (.int k a) (.int k b)).run P w = .ok () w := by
    unfold eqGuard; split <;> rfl
  simp [execOp, hρ _ _ hx, hρ _ _ hy, this, h]
theorem rd_add {t u : TypeId} {k : IntKind} {a b : Int} (hx : ev l x = some (.int k a)) (hy : ev l y = some (.int k b)) : Reads P ⟨dst, .binOp .add t x y u, ty, pos, af, g⟩ l [] (.int k (k.wrap (a + b))) :=
  rd_bin hx hy fun w => by simp [binOp, Op.intArith]
theorem rd_sub {t u : TypeId} {k : IntKind} {a b : Int} (hx : ev l x = some (.int k a)) (hy : ev l y = some (.int k b)) : Reads P ⟨dst, .binOp .sub t x y u, ty, pos, af, g⟩ l [] (.int k (k.wrap (a - b))) :=
  rd_bin hx hy fun w => by simp [binOp, Op.intArith]
theorem rd_mul {t u : TypeId} {k : IntKind} {a b : Int} (hx : ev l x = some (.int k a)) (hy : ev l y = some (.int k b)) : Reads P ⟨dst, .binOp .mul t x y u, ty, pos, af, g⟩ l [] (.int k (k.wrap (a * b))) :=
  rd_bin hx hy fun w => by simp [binOp, Op.intArith]
theorem rd_addi {t u : TypeId} {a b : Int} (hx : ev l x = some (.int .i64 a)) (hy : ev l y = some (.int .i64 b)) (h : i64ok (a + b)) : Reads P ⟨dst, .binOp .add t x y u, ty, pos, af, g⟩ l [] (.int .i64 (a + b)) := by
  have := rd_add (P := P) (dst := dst) (ty := ty) (pos := pos) (af := af) (g := g) (t := t) (u := u) hx hy
  rwa [wrap_id h] at this
theorem rd_subi {t u : TypeId} {a b : Int} (hx : ev l x = some (.int .i64 a)) (hy : ev l y = some (.int .i64 b)) (h : i64ok (a - b)) : Reads P ⟨dst, .binOp .sub t x y u, ty, pos, af, g⟩ l [] (.int .i64 (a - b)) := by
  have := rd_sub (P := P) (dst := dst) (ty := ty) (pos := pos) (af := af) (g := g) (t := t) (u := u) hx hy
  rwa [wrap_id h] at this
theorem rd_muli {t u : TypeId} {a b : Int} (hx : ev l x = some (.int .i64 a)) (hy : ev l y = some (.int .i64 b)) (h : i64ok (a * b)) : Reads P ⟨dst, .binOp .mul t x y u, ty, pos, af, g⟩ l [] (.int .i64 (a * b)) := by
  have := rd_mul (P := P) (dst := dst) (ty := ty) (pos := pos) (af := af) (g := g) (t := t) (u := u) hx hy
  rwa [wrap_id h] at this
theorem rd_eql {t u : TypeId} {k : IntKind} {a b : Int} (hx : ev l x = some (.int k a)) (hy : ev l y = some (.int k b)) : Reads P ⟨dst, .binOp .eql t x y u, ty, pos, af, g⟩ l [] (.bool (decide (a = b))) :=
  rd_bin hx hy fun w => by simp only [binOp, Op.intCmp, ne_eq, not_true, if_false, Sem.run_pure]; rfl
theorem rd_neq {t u : TypeId} {k : IntKind} {a b : Int} (hx : ev l x = some (.int k a)) (hy : ev l y = some (.int k b)) : Reads P ⟨dst, .binOp .neq t x y u, ty, pos, af, g⟩ l [] (.bool (!decide (a = b))) :=
  rd_bin hx hy fun w => by simp only [binOp, Op.intCmp, ne_eq, not_true, if_false, Sem.run_pure]; rfl
theorem rd_lss {t u : TypeId} {k : IntKind} {a b : Int} (hx : ev l x = some (.int k a)) (hy : ev l y = some (.int k b)) : Reads P ⟨dst, .binOp .lss t x y u, ty, pos, af, g⟩ l [] (.bool (decide (a < b))) :=
  rd_bin hx hy fun w => by simp [binOp, Op.intCmp]
theorem rd_leq {t u : TypeId} {k : IntKind} {a b : Int} (hx : ev l x = some (.int k a)) (hy : ev l y = some (.int k b)) : Reads P ⟨dst, .binOp .leq t x y u, ty, pos, af, g⟩ l [] (.bool (decide (a ≤ b))) :=
  rd_bin hx hy fun w => by simp [binOp, Op.intCmp]
theorem rd_gtr {t u : TypeId} {k : IntKind} {a b : Int} (hx : ev l x = some (.int k a)) (hy : ev l y = some (.int k b)) : Reads P ⟨dst, .binOp .gtr t x y u, ty, pos, af, g⟩ l [] (.bool (decide (b < a))) :=
  rd_bin hx hy fun w => by simp [binOp, Op.intCmp]
theorem rd_geq {t u : TypeId} {k : IntKind} {a b : Int} (hx : ev l x = some (.int k a)) (hy : ev l y = some (.int k b)) : Reads P ⟨dst, .binOp .geq t x y u, ty, pos, af, g⟩ l [] (.bool (decide (b ≤ a))) :=
  rd_bin hx hy fun w => by simp [binOp, Op.intCmp]
theorem rd_rem {t u : TypeId} {k : IntKind} {a b : Int} (hx : ev l x = some (.int k a)) (hy : ev l y = some (.int k b)) (h0 : 0 ≤ a) (hb : 0 < b) : Reads P ⟨dst, .binOp .rem t x y u, ty, pos, af, g⟩ l [] (.int k (a % b)) :=
  rd_bin hx hy fun w => by
    have : ¬ b = 0 := by omega
    simp [binOp, Op.intDiv, this, Int.tmod_eq_emod_of_nonneg h0]
theorem rd_quo {t u : TypeId} {k : IntKind} {a b : Int} (hx : ev l x = some (.int k a)) (hy : ev l y = some (.int k b)) (h0 : 0 ≤ a) (hb : 0 < b) : Reads P ⟨dst, .binOp .quo t x y u, ty, pos, af, g⟩ l [] (.int k (k.wrap (a / b))) :=
  rd_bin hx hy fun w => by
    have : ¬ b = 0 := by omega
    simp [binOp, Op.intDiv, this, Int.tdiv_eq_ediv_of_nonneg h0]
theorem rd_and {t u : TypeId} {k : IntKind} {a b : Int} (hx : ev l x = some (.int k a)) (hy : ev l y = some (.int k b)) : Reads P ⟨dst, .binOp .and t x y u, ty, pos, af, g⟩ l [] (.int k (k.wrap (BitVec.ofInt k.bits a &&& BitVec.ofInt k.bits b).toNat)) :=
  rd_bin hx hy fun w => by simp [binOp, Op.intBits]
theorem rd_or {t u : TypeId} {k : IntKind} {a b : Int} (hx : ev l x = some (.int k a)) (hy : ev l y = some (.int k b)) : Reads P ⟨dst, .binOp .or t x y u, ty, pos, af, g⟩ l [] (.int k (k.wrap (BitVec.ofInt k.bits a ||| BitVec.ofInt k.bits b).toNat)) :=
  rd_bin hx hy fun w => by simp [binOp, Op.intBits]
theorem rd_xor {t u : TypeId} {k : IntKind} {a b : Int} (hx : ev l x = some (.int k a)) (hy : ev l y = some (.int k b)) : Reads P ⟨dst, .binOp .xor t x y u, ty, pos, af, g⟩ l [] (.int k (k.wrap (BitVec.ofInt k.bits a ^^^ BitVec.ofInt k.bits b).toNat)) :=
  rd_bin hx hy fun w => by simp [binOp, Op.intBits]
theorem rd_shift {op : BinOp} {t u : TypeId} {k m : IntKind} {a b : Int} {v : Value} (hx : ev l x = some (.int k a)) (hy : ev l y = some (.int m b)) (ho : op = .shl ∨ op = .shr)
    (h : ∀ w, (Op.shift op k a m b).run P w = .ok v w) : Reads P ⟨dst, .binOp op t x y u, ty, pos, af, g⟩ l [] v := by
  intro ro w _ ρ hρ
  rw [Oper.semAt_eq _ _ _ (by intro c; simp)]
  rcases ho with rfl | rfl <;> simp [execOp, hρ _ _ hx, hρ _ _ hy, eqGuard, binOp, h]
theorem rd_shl {t u : TypeId} {k m : IntKind} {a b : Int} (hx : ev l x = some (.int k a)) (hy : ev l y = some (.int m b)) (h0 : 0 ≤ b) : Reads P ⟨dst, .binOp .shl t x y u, ty, pos, af, g⟩ l [] (.int k (k.wrap (a * 2 ^ (min b.toNat k.bits)))) :=
  rd_shift hx hy (.inl rfl) fun w => by
    have : ¬ b < 0 := by omega
    simp [Op.shift, this]
theorem rd_shr {t u : TypeId} {k m : IntKind} {a b : Int} (hx : ev l x = some (.int k a)) (hy : ev l y = some (.int m b)) (h0 : 0 ≤ b) : Reads P ⟨dst, .binOp .shr t x y u, ty, pos, af, g⟩ l [] (.int k (a.fdiv (2 ^ (min b.toNat k.bits)))) :=
  rd_shift hx hy (.inr rfl) fun w => by
    have : ¬ b < 0 := by omega
    simp [Op.shift, this]
theorem rd_not {t : TypeId} {b : Bool} (hx : ev l x = some (.bool b)) : Reads P ⟨dst, .unOp .not t x, ty, pos, af, g⟩ l [] (.bool (!b)) := by
  intro ro w _ ρ hρ
  rw [Oper.semAt_eq _ _ _ (by intro c; simp)]
  simp [execOp, hρ _ _ hx, Op.unary]
theorem rd_conv {s t : TypeId} {k j : IntKind} {a : Int} {ds : TypeDesc} {s1 b1 : Nat} {z1 : Value} {s2 b2 : Nat} {z2 : Value} (hs : Ty P s ds s1 b1 z1) (ht : Ty P t (.int k) s2 b2 z2) (hx : ev l x = some (.int j a)) : Reads P ⟨dst, .convert s t x, ty, pos, af, g⟩ l [] (.int k (k.wrap a)) := by
  intro ro w _ ρ hρ
  rw [Oper.semAt_eq _ _ _ (by intro c; simp)]
  simp [execOp, hρ _ _ hx, convert, hs.und, ht.und, Conv.intToInt]


/-! bools, strings, pointers: held against each other -/
theorem data_eq (a b : ByteArray) : (a.data.toList == b.data.toList) = decide (a = b) := by
  by_cases h : a = b
  · subst h; simp
  · have : a.data.toList ≠ b.data.toList := fun e => h (by
      cases a; cases b
      simp only [ByteArray.mk.injEq]
      exact Array.toList_inj.1 e)
    rw [decide_eq_false h, beq_eq_false_iff_ne]
    exact this
theorem toList_eq (a b : ByteArray) : (a.toList == b.toList) = decide (a = b) := by
  rw [ByteArray.toList_eq, ByteArray.toList_eq, data_eq]
theorem rd_eqlS {t u : TypeId} {a b : ByteArray} (hx : ev l x = some (.string a)) (hy : ev l y = some (.string b)) : Reads P ⟨dst, .binOp .eql t x y u, ty, pos, af, g⟩ l [] (.bool (decide (a = b))) := by
  intro ro w _ ρ hρ
  rw [Oper.semAt_eq _ _ _ (by intro c; simp)]
  simp [execOp, hρ _ _ hx, hρ _ _ hy, eqGuard, binOp, Op.stringOp, toList_eq]
theorem rd_neqS {t u : TypeId} {a b : ByteArray} (hx : ev l x = some (.string a)) (hy : ev l y = some (.string b)) : Reads P ⟨dst, .binOp .neq t x y u, ty, pos, af, g⟩ l [] (.bool (!decide (a = b))) := by
  intro ro w _ ρ hρ
  rw [Oper.semAt_eq _ _ _ (by intro c; simp)]
  simp [execOp, hρ _ _ hx, hρ _ _ hy, eqGuard, binOp, Op.stringOp, toList_eq]
theorem rd_gtrS {t u : TypeId} {a b : ByteArray} (hx : ev l x = some (.string a)) (hy : ev l y = some (.string b)) : Reads P ⟨dst, .binOp .gtr t x y u, ty, pos, af, g⟩ l [] (.bool (!(Op.bytesLess a.data.toList b.data.toList || decide (a = b)))) := by
  intro ro w _ ρ hρ
  rw [Oper.semAt_eq _ _ _ (by intro c; simp)]
  simp only [execOp, hρ _ _ hx, hρ _ _ hy, eqGuard, binOp, Op.stringOp, ByteArray.toList_eq, data_eq]
  simp
theorem rd_lssS {t u : TypeId} {a b : ByteArray} (hx : ev l x = some (.string a)) (hy : ev l y = some (.string b)) : Reads P ⟨dst, .binOp .lss t x y u, ty, pos, af, g⟩ l [] (.bool (Op.bytesLess a.data.toList b.data.toList)) := by
  intro ro w _ ρ hρ
  rw [Oper.semAt_eq _ _ _ (by intro c; simp)]
  simp only [execOp, hρ _ _ hx, hρ _ _ hy, eqGuard, binOp, Op.stringOp, ByteArray.toList_eq]
  simp
theorem rd_addS {t u : TypeId} {a b : ByteArray} (hx : ev l x = some (.string a)) (hy : ev l y = some (.string b)) (h : a.size + b.size ≤ 9223372036854775807) : Reads P ⟨dst, .binOp .add t x y u, ty, pos, af, g⟩ l [] (.string (a ++ b)) := by
  intro ro w _ ρ hρ
  rw [Oper.semAt_eq _ _ _ (by intro c; simp)]
  have hm : IntKind.i64.max = 9223372036854775807 := rfl
  have : ¬ (((a.size + b.size : Nat) : Int) > IntKind.i64.max) := by rw [hm]; omega
  simp only [execOp, hρ _ _ hx, hρ _ _ hy, eqGuard, binOp, Op.stringOp]
  rw [if_neg this]
  simp
theorem run_equalIn_bool {t : TypeId} {s1 b1 : Nat} {z1 : Value} (ht : Ty P t .bool s1 b1 z1) (a b : Bool) (w : World) (d : Nat) : (Op.equalIn (d + 1) t (.bool a) (.bool b)).run P w = .ok (a == b) w := by
  simp only [Op.equalIn, Sem.run_bind, ht.und, Result.andThen_ok, Sem.run_pure]
theorem run_equal_bool {t : TypeId} {s1 b1 : Nat} {z1 : Value} (ht : Ty P t .bool s1 b1 z1) (a b : Bool) (w : World) : (Op.equal t (.bool a) (.bool b)).run P w = .ok (a == b) w :=
  run_equalIn_bool ht a b w 9999
theorem run_equalIn_ptr0 {t e : TypeId} {s1 b1 : Nat} {z1 : Value} (ht : Ty P t (.pointer e) s1 b1 z1) (a : Option Addr) (w : World) (d : Nat) : (Op.equalIn (d + 1) t (.pointer a) (.pointer none)).run P w = .ok a.isNone w := by
  cases a <;> simp only [Op.equalIn, Sem.run_bind, ht.und, Result.andThen_ok, Sem.run_pure, Option.isNone]
theorem run_equal_ptr0 {t e : TypeId} {s1 b1 : Nat} {z1 : Value} (ht : Ty P t (.pointer e) s1 b1 z1) (a : Option Addr) (w : World) : (Op.equal t (.pointer a) (.pointer none)).run P w = .ok a.isNone w :=
  run_equalIn_ptr0 ht a w 9999
theorem run_equalIn_func0 {t : TypeId} {ps rs : Array TypeId} {va : Bool} {s1 b1 : Nat} {z1 : Value} (ht : Ty P t (.func ps rs va) s1 b1 z1) (f : Fn) (fi ca : Array Value) (w : World) (d : Nat) : (Op.equalIn (d + 1) t (.func f fi ca) .nilFunc).run P w = .ok false w := by
  simp only [Op.equalIn, Sem.run_bind, ht.und, Result.andThen_ok, Sem.run_pure]
theorem run_equal_func0 {t : TypeId} {ps rs : Array TypeId} {va : Bool} {s1 b1 : Nat} {z1 : Value} (ht : Ty P t (.func ps rs va) s1 b1 z1) (f : Fn) (fi ca : Array Value) (w : World) : (Op.equal t (.func f fi ca) .nilFunc).run P w = .ok false w :=
  run_equalIn_func0 ht f fi ca w 9999
theorem rd_eqlB {t u : TypeId} {s1 b1 : Nat} {z1 : Value} (ht : Ty P t .bool s1 b1 z1) {a b : Bool} (hx : ev l x = some (.bool a)) (hy : ev l y = some (.bool b)) : Reads P ⟨dst, .binOp .eql t x y u, ty, pos, af, g⟩ l [] (.bool (a == b)) := by
  intro ro w _ ρ hρ
  rw [Oper.semAt_eq _ _ _ (by intro c; simp)]
  simp [execOp, hρ _ _ hx, hρ _ _ hy, eqGuard, binOp, run_equal_bool ht]
theorem rd_neqB {t u : TypeId} {s1 b1 : Nat} {z1 : Value} (ht : Ty P t .bool s1 b1 z1) {a b : Bool} (hx : ev l x = some (.bool a)) (hy : ev l y = some (.bool b)) : Reads P ⟨dst, .binOp .neq t x y u, ty, pos, af, g⟩ l [] (.bool (!(a == b))) := by
  intro ro w _ ρ hρ
  rw [Oper.semAt_eq _ _ _ (by intro c; simp)]
  simp [execOp, hρ _ _ hx, hρ _ _ hy, eqGuard, binOp, run_equal_bool ht]
theorem rd_eqlP0 {t u e : TypeId} {s1 b1 : Nat} {z1 : Value} (ht : Ty P t (.pointer e) s1 b1 z1) {a : Option Addr} (hx : ev l x = some (.pointer a)) (hy : ev l y = some (.pointer none)) : Reads P ⟨dst, .binOp .eql t x y u, ty, pos, af, g⟩ l [] (.bool a.isNone) := by
  intro ro w _ ρ hρ
  rw [Oper.semAt_eq _ _ _ (by intro c; simp)]
  cases a <;> simp [execOp, hρ _ _ hx, hρ _ _ hy, eqGuard, binOp, run_equal_ptr0 ht]
theorem rd_neqP0 {t u e : TypeId} {s1 b1 : Nat} {z1 : Value} (ht : Ty P t (.pointer e) s1 b1 z1) {a : Option Addr} (hx : ev l x = some (.pointer a)) (hy : ev l y = some (.pointer none)) : Reads P ⟨dst, .binOp .neq t x y u, ty, pos, af, g⟩ l [] (.bool a.isSome) := by
  intro ro w _ ρ hρ
  rw [Oper.semAt_eq _ _ _ (by intro c; simp)]
  cases a <;> simp [execOp, hρ _ _ hx, hρ _ _ hy, eqGuard, binOp, run_equal_ptr0 ht]
theorem rd_eqlF0 {t u : TypeId} {ps rs : Array TypeId} {va : Bool} {s1 b1 : Nat} {z1 : Value} (ht : Ty P t (.func ps rs va) s1 b1 z1) {f : Fn} {fi ca : Array Value} (hx : ev l x = some (.func f fi ca)) (hy : ev l y = some .nilFunc) : Reads P ⟨dst, .binOp .eql t x y u, ty, pos, af, g⟩ l [] (.bool false) := by
  intro ro w _ ρ hρ
  rw [Oper.semAt_eq _ _ _ (by intro c; simp)]
  simp [execOp, hρ _ _ hx, hρ _ _ hy, eqGuard, binOp, run_equal_func0 ht]

/-! memory -/
theorem addr_add (b o n : Nat) : (⟨b, o, none⟩ : Addr).add n = ⟨b, o + n, none⟩ := by
  unfold Addr.add
  split
  · subst_vars; rfl
  · rfl
theorem cell_at {w : World} {b : Nat} {C : Array Value} {E : TypeId} {fr : Nat × Nat} (h : w.heap[b]? = some (.cells C E fr)) (o : Nat) : w.cell? ⟨b, o, none⟩ = C[o]? := by
  simp [World.cell?, h]
def cutL (C : Array Value) (off : Nat) : Nat → Option (List Value)
  | 0 => some []
  | n + 1 => match C[off]? with
    | some v => (cutL C (off + 1) n).map (v :: ·)
    | none => none
theorem cutL_get {C : Array Value} : ∀ {n off : Nat} {vs : List Value}, cutL C off n = some vs → vs.length = n ∧ ∀ j v, vs[j]? = some v → C[off + j]? = some v
  | 0, off, vs, h => by simp [cutL] at h; subst h; simp
  | n + 1, off, vs, h => by
    simp only [cutL] at h
    split at h
    · rename_i v hv
      cases hc : cutL C (off + 1) n with
      | none => rw [hc] at h; cases h
      | some r =>
        rw [hc] at h
        simp only [Option.map_some, Option.some.injEq] at h
        subst h
        obtain ⟨h1, h2⟩ := cutL_get hc
        refine ⟨by simp [h1], fun j u hu => ?_⟩
        cases j with
        | zero => simp at hu; subst hu; simpa using hv
        | succ j =>
          have := h2 j u (by simpa using hu)
          rwa [show off + (j + 1) = off + 1 + j by omega]
    · cases h
theorem rd_load {t : TypeId} {d : TypeDesc} {s1 b1 : Nat} {z1 : Value} (ht : Ty P t d s1 b1 z1) {b o : Nat} {C : Array Value} {E : TypeId} {fr : Nat × Nat} {v : Value} (hd : aggD d = false)
    (hx : ev l x = some (.pointer (some ⟨b, o, none⟩))) (hv : C[o]? = some v) : Reads P ⟨dst, .load t x, ty, pos, af, g⟩ l [(b, .cells C E fr)] v := by
  intro ro w hk ρ hρ
  rw [Oper.semAt_eq _ _ _ (by intro c; simp)]
  have hc := cell_at hk.1 o
  rw [hv] at hc
  simp [execOp, hρ _ _ hx, Instr.loadAt, Instr.sureAddr, loadVar, ht.agg, hd, load, Sem.run, hc]
theorem rd_loadG {t : TypeId} {s1 b1 : Nat} {z1 : Value} (ht : TyG P t s1 b1 z1) {b o : Nat} {C : Array Value} {E : TypeId} {fr : Nat × Nat} {vs : List Value}
    (hx : ev l x = some (.pointer (some ⟨b, o, none⟩))) (hv : cutL C o s1 = some vs) : Reads P ⟨dst, .load t x, ty, pos, af, g⟩ l [(b, .cells C E fr)] (.agg vs.toArray) := by
  intro ro w hk ρ hρ
  rw [Oper.semAt_eq _ _ _ (by intro c; simp)]
  obtain ⟨h1, h2⟩ := cutL_get hv
  have := run_loadCells_list (P := P) w ⟨b, o, none⟩ vs (fun j u hu => by rw [addr_add, cell_at hk.1]; exact h2 j u hu)
  rw [h1] at this
  simp [execOp, hρ _ _ hx, Instr.loadAt, Instr.sureAddr, loadVar, ht.agg, ht.sz.siz, this]
theorem rd_fieldA {s : TypeId} {i fo ft : Nat} (hf : fld P s i = some (fo, ft)) {s2 b2 : Nat} {z2 : Value} (ht : Sz P ft (s2 + 1) b2 z2) {b o : Nat}
    (hx : ev l x = some (.pointer (some ⟨b, o, none⟩))) : Reads P ⟨dst, .fieldAddr s x i, ty, pos, af, g⟩ l [] (.pointer (some ⟨b, o + fo, none⟩)) := by
  intro ro w _ ρ hρ
  rw [Oper.semAt_eq _ _ _ (by intro c; simp)]
  obtain ⟨fs, f, hu, hfi, rfl, rfl⟩ := fld_spec hf
  simp [execOp, hρ _ _ hx, Instr.fieldAt, und_run hu, hfi, Instr.sureAddr, fieldPlace, ht.siz, addr_add]
theorem rd_field {s : TypeId} {i fo ft : Nat} (hf : fld P s i = some (fo, ft)) {d : TypeDesc} {s2 b2 : Nat} {z2 : Value} (ht : Ty P ft d s2 b2 z2) (hd : aggD d = false) {cs : Array Value} {v : Value}
    (hx : ev l x = some (.agg cs)) (hv : cs[fo]? = some v) : Reads P ⟨dst, .field s x i, ty, pos, af, g⟩ l [] v := by
  intro ro w _ ρ hρ
  rw [Oper.semAt_eq _ _ _ (by intro c; simp)]
  obtain ⟨fs, f, hu, hfi, rfl, rfl⟩ := fld_spec hf
  simp [execOp, hρ _ _ hx, Instr.field, und_run hu, hfi, asAgg, Go.part, ht.agg, hd, hv]
theorem rd_fieldG {s : TypeId} {i fo ft : Nat} (hf : fld P s i = some (fo, ft)) {s2 b2 : Nat} {z2 : Value} (ht : TyG P ft s2 b2 z2) {cs : Array Value}
    (hx : ev l x = some (.agg cs)) : Reads P ⟨dst, .field s x i, ty, pos, af, g⟩ l [] (.agg (cs.extract fo (fo + s2))) := by
  intro ro w _ ρ hρ
  rw [Oper.semAt_eq _ _ _ (by intro c; simp)]
  obtain ⟨fs, f, hu, hfi, rfl, rfl⟩ := fld_spec hf
  simp [execOp, hρ _ _ hx, Instr.field, und_run hu, hfi, asAgg, Go.part, ht.agg, ht.sz.siz]
theorem rd_idx {t e : TypeId} {s1 b1 : Nat} {z1 : Value} (ht : Ty P t (.slice e) s1 b1 z1) {s2 b2 : Nat} {z2 : Value} (he : Sz P e s2 b2 z2) {b o len cap : Nat} {k : IntKind} {i : Int}
    (hx : ev l x = some (.slice (some ⟨b, o, none⟩) len cap)) (hy : ev l y = some (.int k i)) (h0 : 0 ≤ i) (h1 : i < len) : Reads P ⟨dst, .indexAddr t x y, ty, pos, af, g⟩ l [] (.pointer (some ⟨b, o + i.toNat * s2, none⟩)) := by
  intro ro w _ ρ hρ
  rw [Oper.semAt_eq _ _ _ (by intro c; simp)]
  simp only [execOp, hρ _ _ hx, hρ _ _ hy, Instr.indexAt, asIntOf, Sem.run_bind, Sem.run_pure, Result.andThen_ok, ht.und]
  simp [h0, h1, he.siz, addr_add]
theorem rd_idxA {t e : TypeId} {n : Nat} {s1 b1 : Nat} {z1 : Value} (ht : Ty P t (.array n e) s1 b1 z1) {s2 b2 : Nat} {z2 : Value} (he : Sz P e s2 b2 z2) {b o : Nat} {k : IntKind} {i : Int}
    (hx : ev l x = some (.pointer (some ⟨b, o, none⟩))) (hy : ev l y = some (.int k i)) (h0 : 0 ≤ i) (h1 : i < n) : Reads P ⟨dst, .indexAddr t x y, ty, pos, af, g⟩ l [] (.pointer (some ⟨b, o + i.toNat * s2, none⟩)) := by
  intro ro w _ ρ hρ
  rw [Oper.semAt_eq _ _ _ (by intro c; simp)]
  simp only [execOp, hρ _ _ hx, hρ _ _ hy, Instr.indexAt, asIntOf, Sem.run_bind, Sem.run_pure, Result.andThen_ok, ht.und, Instr.sureAddr]
  simp [h0, h1, he.siz, addr_add]
theorem rd_byte {t : TypeId} {s1 b1 : Nat} {z1 : Value} (ht : Ty P t .string s1 b1 z1) {s : ByteArray} {k : IntKind} {i : Int}
    (hx : ev l x = some (.string s)) (hy : ev l y = some (.int k i)) (h0 : 0 ≤ i) {c : UInt8} (hc : s.data[i.toNat]? = some c) : Reads P ⟨dst, .index t x y, ty, pos, af, g⟩ l [] (.int .u8 c.toNat) := by
  intro ro w _ ρ hρ
  rw [Oper.semAt_eq _ _ _ (by intro c; simp)]
  have : s[i.toNat]? = some c := by
    have hlt := (Array.getElem?_eq_some_iff.1 hc).1
    rw [getElem?_pos s i.toNat (show i.toNat < s.size from hlt)]
    exact congrArg some (Array.getElem?_eq_some_iff.1 hc).2
  simp only [execOp, hρ _ _ hx, hρ _ _ hy, Instr.index, asIntOf, Sem.run_bind, Sem.run_pure, Result.andThen_ok, ht.und]
  simp [h0, this]
theorem rd_len {t u : TypeId} {a : Option Addr} {len cap : Nat} {e : TypeId} {s1 b1 : Nat} {z1 : Value} (ht : Ty P t (.slice e) s1 b1 z1) (hx : ev l x = some (.slice a len cap)) : Reads P ⟨dst, .call ⟨.builtin .len, #[x], #[t]⟩, ty, pos, af, g⟩ l [] (.int .i64 len) := by
  intro ro w _ ρ hρ
  rw [Oper.semAt_eq _ _ _ (by intro c; simp)]
  simp [execOp, resolve, invoke, builtin, hρ _ _ hx, Builtin.len_, ht.und, goInt]
theorem rd_lenS {t : TypeId} {s : ByteArray} {s1 b1 : Nat} {z1 : Value} (ht : Ty P t .string s1 b1 z1) (hx : ev l x = some (.string s)) : Reads P ⟨dst, .call ⟨.builtin .len, #[x], #[t]⟩, ty, pos, af, g⟩ l [] (.int .i64 s.size) := by
  intro ro w _ ρ hρ
  rw [Oper.semAt_eq _ _ _ (by intro c; simp)]
  simp [execOp, resolve, invoke, builtin, hρ _ _ hx, Builtin.len_, ht.und, goInt]
theorem rd_lenM {t : TypeId} {b : Nat} {es : Array MapEntry} {ck : Nat} {kt et : TypeId} {s1 b1 : Nat} {z1 : Value} (ht : Ty P t (.map kt et) s1 b1 z1) (hx : ev l x = some (.map (some b))) : Reads P ⟨dst, .call ⟨.builtin .len, #[x], #[t]⟩, ty, pos, af, g⟩ l [(b, .map es ck)] (.int .i64 es.size) := by
  intro ro w hk ρ hρ
  rw [Oper.semAt_eq _ _ _ (by intro c; simp)]
  have := hk.1
  simp [execOp, resolve, invoke, builtin, hρ _ _ hx, Builtin.len_, ht.und, goInt, getObj, Sem.run, this]
theorem rd_min {t u : TypeId} {k m : IntKind} {a b : Int} (hx : ev l x = some (.int k a)) (hy : ev l y = some (.int m b)) : Reads P ⟨dst, .call ⟨.builtin .min, #[x, y], #[t, u]⟩, ty, pos, af, g⟩ l [] (.int k (min a b)) := by
  intro ro w _ ρ hρ
  rw [Oper.semAt_eq _ _ _ (by intro c; simp)]
  have : (if b < a then b else a) = min a b := by rw [Int.min_def]; split <;> split <;> omega
  simp [execOp, resolve, invoke, builtin, hρ _ _ hx, hρ _ _ hy, Builtin.min_, Builtin.min2, this]
theorem rd_max {t u : TypeId} {k m : IntKind} {a b : Int} (hx : ev l x = some (.int k a)) (hy : ev l y = some (.int m b)) : Reads P ⟨dst, .call ⟨.builtin .max, #[x, y], #[t, u]⟩, ty, pos, af, g⟩ l [] (.int k (max a b)) := by
  intro ro w _ ρ hρ
  rw [Oper.semAt_eq _ _ _ (by intro c; simp)]
  have : (if a < b then b else a) = max a b := by rw [Int.max_def]; split <;> split <;> omega
  simp [execOp, resolve, invoke, builtin, hρ _ _ hx, hρ _ _ hy, Builtin.max_, Builtin.max2, this]
theorem rd_extract {vs : Array Value} {i : Nat} {v : Value} (hx : ev l x = some (.tuple vs)) (hv : vs[i]? = some v) : Reads P ⟨dst, .extract x i, ty, pos, af, g⟩ l [] v := by
  intro ro w _ ρ hρ
  rw [Oper.semAt_eq _ _ _ (by intro c; simp)]
  simp [execOp, hρ _ _ hx, Instr.extract, hv]

/-- The address of a slice cut at lo. -/
def adv (a : Option Addr) (lo size m : Nat) : Option Addr := if m = lo then a else a.map (·.add (lo * size))
theorem rd_slice {t e : TypeId} {s1 b1 : Nat} {z1 : Value} (ht : Ty P t (.slice e) s1 b1 z1) {s2 b2 : Nat} {z2 : Value} (he : Sz P e s2 b2 z2) {a : Option Addr} {len cap : Nat} {lo hi : Operand} {k j : IntKind} {i h : Int}
    (hx : ev l x = some (.slice a len cap)) (hlo : ev l lo = some (.int k i)) (hhi : ev l hi = some (.int j h)) (h0 : 0 ≤ i) (h1 : i ≤ h) (h2 : h ≤ cap) :
    Reads P ⟨dst, .slice t x (some lo) (some hi) none, ty, pos, af, g⟩ l [] (.slice (adv a i.toNat s2 cap) (h.toNat - i.toNat) (cap - i.toNat)) := by
  intro ro w _ ρ hρ
  rw [Oper.semAt_eq _ _ _ (by intro c; simp)]
  have h3 : i ≤ (h.toNat : Int) := by omega
  have h4 : 0 ≤ h := by omega
  simp only [execOp, hρ _ _ hx, hρ _ _ hlo, hρ _ _ hhi, Option.map_some, Option.map_none, Instr.sliceAt, Instr.slice, Instr.sliceBounds, Instr.sliceBound, asIntOf, Sem.run_bind, Sem.run_pure, Result.andThen_ok, ht.und]
  rw [if_pos ⟨h4, h2⟩]
  simp only [Sem.run_pure, Result.andThen_ok]
  rw [if_pos ⟨h0, h3⟩]
  simp [he.siz, adv]
theorem rd_sliceH {t e : TypeId} {s1 b1 : Nat} {z1 : Value} (ht : Ty P t (.slice e) s1 b1 z1) {s2 b2 : Nat} {z2 : Value} (he : Sz P e s2 b2 z2) {a : Option Addr} {len cap : Nat} {hi : Operand} {j : IntKind} {h : Int}
    (hx : ev l x = some (.slice a len cap)) (hhi : ev l hi = some (.int j h)) (h1 : 0 ≤ h) (h2 : h ≤ cap) :
    Reads P ⟨dst, .slice t x none (some hi) none, ty, pos, af, g⟩ l [] (.slice a h.toNat cap) := by
  intro ro w _ ρ hρ
  rw [Oper.semAt_eq _ _ _ (by intro c; simp)]
  simp only [execOp, hρ _ _ hx, hρ _ _ hhi, Option.map_some, Option.map_none, Instr.sliceAt, Instr.slice, Instr.sliceBounds, Instr.sliceBound, asIntOf, Sem.run_bind, Sem.run_pure, Result.andThen_ok, ht.und]
  have : a.map (·.add 0) = a := by cases a <;> simp [Addr.add]
  simp [h1, h2, he.siz, this]
theorem rd_sliceL {t e : TypeId} {s1 b1 : Nat} {z1 : Value} (ht : Ty P t (.slice e) s1 b1 z1) {s2 b2 : Nat} {z2 : Value} (he : Sz P e s2 b2 z2) {a : Option Addr} {len cap : Nat} {lo : Operand} {k : IntKind} {i : Int}
    (hx : ev l x = some (.slice a len cap)) (hlo : ev l lo = some (.int k i)) (h0 : 0 ≤ i) (h1 : i ≤ len) :
    Reads P ⟨dst, .slice t x (some lo) none none, ty, pos, af, g⟩ l [] (.slice (adv a i.toNat s2 cap) (len - i.toNat) (cap - i.toNat)) := by
  intro ro w _ ρ hρ
  rw [Oper.semAt_eq _ _ _ (by intro c; simp)]
  simp only [execOp, hρ _ _ hx, hρ _ _ hlo, Option.map_some, Option.map_none, Instr.sliceAt, Instr.slice, Instr.sliceBounds, Instr.sliceBound, asIntOf, Sem.run_bind, Sem.run_pure, Result.andThen_ok, ht.und]
  simp [h0, h1, he.siz, adv]
/-- x[lo:hi:max]. -/
theorem rd_slice3 {t e : TypeId} {s1 b1 : Nat} {z1 : Value} (ht : Ty P t (.slice e) s1 b1 z1) {s2 b2 : Nat} {z2 : Value} (he : Sz P e s2 b2 z2) {a : Option Addr} {len cap : Nat} {hi mx : Operand} {j m : IntKind} {h q : Int}
    (hx : ev l x = some (.slice a len cap)) (hhi : ev l hi = some (.int j h)) (hmx : ev l mx = some (.int m q)) (h1 : 0 ≤ h) (h2 : h ≤ q) (h3 : q ≤ cap) :
    Reads P ⟨dst, .slice t x none (some hi) (some mx), ty, pos, af, g⟩ l [] (.slice a h.toNat q.toNat) := by
  intro ro w _ ρ hρ
  rw [Oper.semAt_eq _ _ _ (by intro c; simp)]
  have h4 : h ≤ (q.toNat : Int) := by omega
  have h5 : 0 ≤ q := by omega
  simp only [execOp, hρ _ _ hx, hρ _ _ hhi, hρ _ _ hmx, Option.map_some, Option.map_none, Instr.sliceAt, Instr.slice, Instr.sliceBounds, Instr.sliceBound, asIntOf, Sem.run_bind, Sem.run_pure, Result.andThen_ok, ht.und]
  have : a.map (·.add 0) = a := by cases a <;> simp [Addr.add]
  rw [if_pos ⟨h5, h3⟩]
  simp only [Sem.run_pure, Result.andThen_ok]
  rw [if_pos ⟨h1, h4⟩]
  simp [he.siz, this]
theorem rd_sliceS {t : TypeId} {s1 b1 : Nat} {z1 : Value} (ht : Ty P t .string s1 b1 z1) {s : ByteArray} {lo hi : Operand} {k j : IntKind} {i h : Int}
    (hx : ev l x = some (.string s)) (hlo : ev l lo = some (.int k i)) (hhi : ev l hi = some (.int j h)) (h0 : 0 ≤ i) (h1 : i ≤ h) (h2 : h ≤ s.size) :
    Reads P ⟨dst, .slice t x (some lo) (some hi) none, ty, pos, af, g⟩ l [] (.string (s.extract i.toNat h.toNat)) := by
  intro ro w _ ρ hρ
  rw [Oper.semAt_eq _ _ _ (by intro c; simp)]
  have h3 : i ≤ (h.toNat : Int) := by omega
  have h4 : 0 ≤ h := by omega
  simp only [execOp, hρ _ _ hx, hρ _ _ hlo, hρ _ _ hhi, Option.map_some, Option.map_none, Instr.sliceAt, Instr.slice, Instr.sliceBounds, Instr.sliceBound, asIntOf, Sem.run_bind, Sem.run_pure, Result.andThen_ok, ht.und]
  simp only [Option.isSome_none, Bool.false_eq_true, if_false, Sem.run_bind, Sem.run_pure, Result.andThen_ok]
  rw [if_pos ⟨h4, h2⟩]
  simp only [Sem.run_pure, Result.andThen_ok]
  rw [if_pos ⟨h0, h3⟩]
  simp
theorem rd_sliceSH {t : TypeId} {s1 b1 : Nat} {z1 : Value} (ht : Ty P t .string s1 b1 z1) {s : ByteArray} {hi : Operand} {j : IntKind} {h : Int}
    (hx : ev l x = some (.string s)) (hhi : ev l hi = some (.int j h)) (h1 : 0 ≤ h) (h2 : h ≤ s.size) :
    Reads P ⟨dst, .slice t x none (some hi) none, ty, pos, af, g⟩ l [] (.string (s.extract 0 h.toNat)) := by
  intro ro w _ ρ hρ
  rw [Oper.semAt_eq _ _ _ (by intro c; simp)]
  simp only [execOp, hρ _ _ hx, hρ _ _ hhi, Option.map_some, Option.map_none, Instr.sliceAt, Instr.slice, Instr.sliceBounds, Instr.sliceBound, asIntOf, Sem.run_bind, Sem.run_pure, Result.andThen_ok, ht.und]
  simp [h1, h2]
theorem rd_sliceSL {t : TypeId} {s1 b1 : Nat} {z1 : Value} (ht : Ty P t .string s1 b1 z1) {s : ByteArray} {lo : Operand} {k : IntKind} {i : Int}
    (hx : ev l x = some (.string s)) (hlo : ev l lo = some (.int k i)) (h0 : 0 ≤ i) (h1 : i ≤ s.size) :
    Reads P ⟨dst, .slice t x (some lo) none none, ty, pos, af, g⟩ l [] (.string (s.extract i.toNat s.size)) := by
  intro ro w _ ρ hρ
  rw [Oper.semAt_eq _ _ _ (by intro c; simp)]
  simp only [execOp, hρ _ _ hx, hρ _ _ hlo, Option.map_some, Option.map_none, Instr.sliceAt, Instr.slice, Instr.sliceBounds, Instr.sliceBound, asIntOf, Sem.run_bind, Sem.run_pure, Result.andThen_ok, ht.und]
  simp [h0, h1]
end
end Go.Proofs.Slx
