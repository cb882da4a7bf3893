import Derived.Test.YtmhpgdpegneejaaDoorDk0
set_option linter.unusedVariables false
set_option linter.unusedSimpArgs false
namespace Go.Proofs.Slx
open Go
/-! ### 21. First places in lists of pairs -/
section
variable {κ α β : Type} [DecidableEq κ]
def pos : List (κ × α) → κ → Nat
  | [], _ => 0
  | (k0, _) :: r, k => if k0 = k then 0 else pos r k + 1
theorem pos_le : ∀ (l : List (κ × α)) (k : κ), pos l k ≤ l.length
  | [], _ => Nat.le_refl _
  | (k0, _) :: r, k => by simp only [pos]; split <;> simp [pos_le r k]
theorem pos_some : ∀ {l : List (κ × α)} {k : κ} {v : α}, kget l k = some v → pos l k < l.length ∧ l[pos l k]? = some (k, v)
  | [], _, _, h => by simp [kget] at h
  | (k0, v0) :: r, k, v, h => by
    simp only [kget] at h
    simp only [pos]
    split
    · rename_i e; subst e; simp at h; simp [h]
    · rename_i e
      rw [if_neg e] at h
      obtain ⟨h1, h2⟩ := pos_some h
      exact ⟨by simp; exact h1, by simpa using h2⟩
theorem pos_none : ∀ {l : List (κ × α)} {k : κ}, kget l k = none → pos l k = l.length
  | [], _, _ => rfl
  | (k0, v0) :: r, k, h => by
    simp only [kget] at h
    simp only [pos]
    split
    · rename_i e; rw [if_pos e] at h; cases h
    · rename_i e; rw [if_neg e] at h; simp [pos_none h]
theorem kset_at : ∀ {l : List (κ × α)} {k : κ} {v : α} (u : α), kget l k = some v → kset l k u = l.set (pos l k) (k, u)
  | [], _, _, _, h => by simp [kget] at h
  | (k0, v0) :: r, k, v, u, h => by
    simp only [kget] at h
    simp only [pos, kset]
    split
    · rename_i e; subst e; rfl
    · rename_i e; rw [if_neg e] at h; rw [kset_at u h]; rfl
theorem pos_kset : ∀ (l : List (κ × α)) (k : κ) (u : α), pos (kset l k u) k = pos l k
  | [], k, u => by simp [kset, pos]
  | (k0, v0) :: r, k, u => by
    simp only [kset, pos]
    split
    · rename_i e; simp [pos, e]
    · rename_i e; simp [pos, e, pos_kset r k u]
theorem kset_twice (l : List (κ × α)) (k : κ) (u v : α) : kset (kset l k u) k v = kset l k v := by
  induction l with
  | nil => simp [kset]
  | cons p r ih =>
    obtain ⟨k0, v0⟩ := p
    simp only [kset]
    split
    · simp [kset]
    · rename_i e; simp [kset, e, ih]
theorem kset_new : ∀ {l : List (κ × α)} {k : κ} (u : α), kget l k = none → kset l k u = l ++ [(k, u)]
  | [], _, _, _ => rfl
  | (k0, v0) :: r, k, u, h => by
    simp only [kget] at h
    simp only [kset]
    split
    · rename_i e; rw [if_pos e] at h; cases h
    · rename_i e; rw [if_neg e] at h; rw [kset_new u h]; rfl
theorem pos_at : ∀ {l : List (κ × α)} {k k0 : κ} {v : α} {i : Nat}, i ≤ pos l k → l[i]? = some (k0, v) → (k0 = k → pos l k = i ∧ kget l k = some v) ∧ (k0 ≠ k → i + 1 ≤ pos l k)
  | [], _, _, _, _, _, h => by simp at h
  | (k1, v1) :: r, k, k0, v, 0, hi, h => by
    simp only [List.getElem?_cons_zero, Option.some.injEq, Prod.mk.injEq] at h
    obtain ⟨rfl, rfl⟩ := h
    simp only [pos, kget]
    exact ⟨fun e => by simp [e], fun e => by simp [e]⟩
  | (k1, v1) :: r, k, k0, v, i + 1, hi, h => by
    simp only [pos] at hi ⊢
    by_cases e : k1 = k
    · rw [if_pos e] at hi; omega
    · rw [if_neg e] at hi ⊢
      have := pos_at (l := r) (i := i) (k := k) (k0 := k0) (v := v) (by omega) (by simpa using h)
      simp only [kget, if_neg e]
      exact ⟨fun x => ⟨by have := (this.1 x).1; omega, (this.1 x).2⟩, fun x => by have := this.2 x; omega⟩
theorem pos_keys : ∀ {l : List (κ × α)} {l' : List (κ × β)}, keys l = keys l' → ∀ k, pos l k = pos l' k
  | [], [], _, _ => rfl
  | (k0, _) :: r, (k1, _) :: r', h, k => by
    simp only [keys, List.map_cons, List.cons.injEq] at h
    simp only [pos, h.1, pos_keys h.2 k]
end
/-! rows of pairs -/
def fcells (gs : List (ByteArray × Value)) : List Value := gs.flatMap fun p => [.string p.1, p.2]
theorem fcells_len : ∀ (gs : List (ByteArray × Value)), (fcells gs).length = gs.length * 2
  | [] => rfl
  | p :: r => by
    have := fcells_len r
    simp only [fcells, List.flatMap_cons, List.length_append, List.length_cons, List.length_nil] at this ⊢
    omega
theorem fcells_append (gs hs : List (ByteArray × Value)) : fcells (gs ++ hs) = fcells gs ++ fcells hs := List.flatMap_append
theorem fcells_get : ∀ {gs : List (ByteArray × Value)} {i : Nat} {p : ByteArray × Value}, gs[i]? = some p → (fcells gs)[i * 2]? = some (.string p.1) ∧ (fcells gs)[i * 2 + 1]? = some p.2
  | [], _, _, h => by simp at h
  | q :: r, 0, p, h => by simp at h; subst h; simp [fcells]
  | q :: r, i + 1, p, h => by
    obtain ⟨h1, h2⟩ := fcells_get (gs := r) (i := i) (by simpa using h)
    have e1 : (i + 1) * 2 = i * 2 + 1 + 1 := by omega
    simp only [fcells, List.flatMap_cons, List.cons_append, List.nil_append, e1, List.getElem?_cons_succ] at h1 h2 ⊢
    exact ⟨h1, h2⟩
theorem fcells_set : ∀ (gs : List (ByteArray × Value)) (i : Nat) (p : ByteArray × Value) (v : Value), gs[i]? = some p → fcells (gs.set i (p.1, v)) = (fcells gs).set (i * 2 + 1) v
  | [], _, _, _, h => by simp at h
  | q :: r, 0, p, v, h => by simp at h; subst h; simp [fcells]
  | q :: r, i + 1, p, v, h => by
    have := fcells_set r i p v (by simpa using h)
    have e1 : (i + 1) * 2 + 1 = i * 2 + 1 + 1 + 1 := by omega
    simp only [fcells, List.set_cons_succ, List.flatMap_cons, List.cons_append, List.nil_append, e1] at this ⊢
    rw [this]
theorem fcells_set0 : ∀ (gs : List (ByteArray × Value)) (i : Nat) (p : ByteArray × Value) (s : ByteArray), gs[i]? = some p → fcells (gs.set i (s, p.2)) = (fcells gs).set (i * 2) (.string s)
  | [], _, _, _, h => by simp at h
  | q :: r, 0, p, v, h => by simp at h; subst h; simp [fcells]
  | q :: r, i + 1, p, v, h => by
    have := fcells_set0 r i p v (by simpa using h)
    have e1 : (i + 1) * 2 = i * 2 + 1 + 1 := by omega
    simp only [fcells, List.set_cons_succ, List.flatMap_cons, List.cons_append, List.nil_append, e1] at this ⊢
    rw [this]
/-- One pair of a row, as it is loaded. -/
theorem cut_pair {C : Array Value} {o i : Nat} {gs : List (ByteArray × Value)} {p : ByteArray × Value} (hC : ∀ (i : Nat) (v : Value), (fcells gs)[i]? = some v → C[o + i]? = some v) (h : gs[i]? = some p) : cutL C (o + i * 2) 2 = some [.string p.1, p.2] := by
  obtain ⟨h1, h2⟩ := fcells_get h
  have a := hC _ _ h1
  have b := hC _ _ h2
  simp only [cutL, a, show o + i * 2 + 1 = o + (i * 2 + 1) by omega, b, Option.map_some]
/-! an owned row, opened and closed -/
structure RowOk (E sz len cap : Nat) (C : Array Value) (fr : Nat × Nat) (vs : List Value) : Prop where
  lenv : vs.length = len * sz
  size : C.size = cap * sz
  le : len ≤ cap
  max : cap ≤ 9223372036854775807
  get : ∀ i : Nat, i < len * sz → C[i]? = vs[i]?
  fr : fr.2 ≤ fr.1 ∨ C.size ≤ fr.1
theorem Sat.ownOpen {w : World} {L : List Hp} {E sz len cap : Nat} {a : Option Addr} {vs : List Value} (n : Nat) (h : Sat w L) (hL : L[n]? = some (OwnS E sz (.slice a len cap) vs)) (hn : 0 < len) :
    ∃ b C fr, a = some ⟨b, 0, none⟩ ∧ RowOk E sz len cap C fr vs ∧ Sat w (L.set n (pt b (.cells C E fr))) := by
  obtain ⟨g, s, x, upd⟩ := h.upd n hL
  rcases x with ⟨a', e, _⟩ | ⟨b, len', cap', C, fr, e, hb, h1, h2, h3, h4, h5, h6⟩
  · injection e with _ e _; omega
  · injection e with e1 e2 e3
    subst e2 e3
    exact ⟨b, C, fr, e1, ⟨h1, h2, h3, h4, h5, h6⟩, upd _ g w hb s (fun i => by cases hg : g i <;> simp) (fun _ _ _ e => e)⟩
theorem Sat.ownClose {w : World} {L : List Hp} {E sz len cap b : Nat} {C : Array Value} {fr : Nat × Nat} {vs : List Value} (n : Nat) (h : Sat w L) (hL : L[n]? = some (pt b (.cells C E fr))) (r : RowOk E sz len cap C fr vs) :
    Sat w (L.set n (OwnS E sz (.slice (some ⟨b, 0, none⟩) len cap) vs)) :=
  h.conv n hL fun g hb => .inr ⟨b, len, cap, C, fr, rfl, hb, r.lenv, r.size, r.le, r.max, r.get, r.fr⟩
theorem RowOk.set {E sz len cap : Nat} {C : Array Value} {fr : Nat × Nat} {vs : List Value} (r : RowOk E sz len cap C fr vs) (i : Nat) (v : Value) : RowOk E sz len cap (spl C i [v]) fr (vs.set i v) where
  lenv := by rw [List.length_set]; exact r.lenv
  size := by rw [spl_size]; exact r.size
  le := r.le
  max := r.max
  get := fun j hj => by
    have := r.get j hj
    simp only [spl, Array.getElem?_setIfInBounds, List.getElem?_set]
    by_cases e : i = j
    · subst e
      have h1 : i < C.size := by have := Nat.mul_le_mul_right sz r.le; rw [r.size]; omega
      have h2 : i < vs.length := by rw [r.lenv]; exact hj
      simp [h1, h2]
    · simp [e, this]
  fr := by rw [spl_size]; exact r.fr
theorem RowOk.fok {E sz len cap : Nat} {C : Array Value} {fr : Nat × Nat} {vs : List Value} (r : RowOk E sz len cap C fr vs) (o n : Nat) (h : o + n ≤ cap * sz) : fok fr o n = true := by
  simp only [Slx.fok, Bool.or_eq_true, Nat.ble_eq]
  rcases r.fr with h1 | h1
  · exact .inl (.inl (.inl h1))
  · rw [r.size] at h1; exact .inl (.inl (.inr (by omega)))
theorem own_take {E sz len cap n : Nat} {a : Option Addr} {vs : List Value} (hn : n ≤ len) : ∀ h, OwnS E sz (.slice a len cap) vs h → OwnS E sz (.slice a n cap) (vs.take (n * sz)) h := by
  rintro h (⟨a', e, rfl⟩ | ⟨b, len', cap', C, fr, e, hb, h1, h2, h3, h4, h5, h6⟩)
  · injection e with e1 e2 e3
    subst e2 e3
    have : n = 0 := by omega
    subst this
    exact .inl ⟨a, rfl, by simp⟩
  · injection e with e1 e2 e3
    subst e1 e2 e3
    have hm := Nat.mul_le_mul_right sz hn
    refine .inr ⟨b, n, cap, C, fr, rfl, hb, by rw [List.length_take, h1, Nat.min_eq_left hm], h2, by omega, h4, fun i hi => ?_, h6⟩
    rw [h5 i (by omega), List.getElem?_take, if_pos hi]
theorem fcells_kset {gs : List (ByteArray × Value)} {name : ByteArray} {v : Value} (u : Value) (h : kget gs name = some v) : (fcells gs).set (0 + pos gs name * 2 + 1) u = fcells (kset gs name u) := by
  rw [kset_at u h, Nat.zero_add]
  exact (fcells_set gs _ (name, v) u (pos_some h).2).symm
end Go.Proofs.Slx
namespace Go.Proofs.YtmhpgdpegneejaaDoor
open Go Go.Proofs Go.Proofs.Slx
/-- The document's disk, told as a disk; below no raw write more: none is counted. -/
def refR (b : Nat) (W : DiskV) : Hp := fun h => ∃ v gs, (W.cut = true → 0 ≤ W.left ∧ W.left ≤ 9223372036854775807) ∧ all [pt b (.cells #[v, .int .i64 W.writes, .int .i64 (if W.cut then W.left else -1)] 73), OwnS 76 2 v (fcells gs), valsR gs W.files] h
theorem refR_open {b : Nat} {W : DiskV} {w : World} {R : List Hp} (h : Sat w (refR b W :: R)) :
    ∃ a n c gs, (W.cut = true → 0 ≤ W.left ∧ W.left ≤ 9223372036854775807) ∧ n = gs.length ∧ n ≤ c ∧ c ≤ 9223372036854775807 ∧ keys gs = keys W.files ∧
      Sat w (pt b (.cells #[.slice a n c, .int .i64 W.writes, .int .i64 (if W.cut then W.left else -1)] 73) :: OwnS 76 2 (.slice a n c) (fcells gs) :: valsR gs W.files :: R) := by
  obtain ⟨h1, h2, d, s1, s2, ⟨v, gs, p, a⟩, r⟩ := h
  have h3 := Sat.join (w := w) ⟨h1, h2, d, s1, s2, a, r⟩
  obtain ⟨ad, n, c, rfl, hl, hc, hm, _⟩ := Sat.ownRow 1 h3 rfl
  rw [fcells_len] at hl
  exact ⟨ad, n, c, gs, p, by omega, hc, hm, Sat.vkeys 2 h3 rfl, h3⟩
theorem refR_close {b : Nat} {v : Value} {W : DiskV} {gs : List (ByteArray × Value)} {w : World} {R : List Hp} (p : W.cut = true → 0 ≤ W.left ∧ W.left ≤ 9223372036854775807) (h : Sat w (pt b (.cells #[v, .int .i64 W.writes, .int .i64 (if W.cut then W.left else -1)] 73) :: OwnS 76 2 v (fcells gs) :: valsR gs W.files :: R)) :
    Sat w (refR b W :: R) := by
  obtain ⟨h1, h2, d, s1, s2, a, r⟩ := Sat.part (L := [_, _, _]) h
  exact ⟨h1, h2, d, s1, s2, ⟨v, gs, p, a⟩, r⟩
def findI (fs : List (ByteArray × List UInt8)) (name : ByteArray) : Int := if (kget fs name).isSome then pos fs name else -1
theorem valsR_mono : ∀ {gs : List (ByteArray × Value)} {fs : List (ByteArray × List UInt8)} {h h' : Part}, valsR gs fs h → hsub h h' → valsR gs fs h'
  | [], [], _, _, _, _ => trivial
  | (_, _) :: _, (_, _) :: _, _, _, ⟨e, a⟩, s => ⟨e, SatH.mono a s⟩
  | [], _ :: _, _, _, h, _ => h.elim
  | _ :: _, [], _, _, h, _ => h.elim
theorem vals_nth : ∀ {gs : List (ByteArray × Value)} {fs : List (ByteArray × List UInt8)} {g : Part} {i : Nat} {nm : ByteArray} {v : Value}, valsR gs fs g → gs[i]? = some (nm, v) →
    ∃ f a l c, fs[i]? = some (nm, f) ∧ v = .slice a l c ∧ l = f.length ∧ l ≤ c ∧ c ≤ 9223372036854775807 ∧ RowH g a (bcells f)
  | [], _, _, _, _, _, _, e => by simp at e
  | _ :: _, [], _, _, _, _, h, _ => h.elim
  | (k0, v0) :: r, (k1, f0) :: r', g, 0, nm, v, ⟨e, h1, h2, d, s1, s2, a, q⟩, hi => by
    simp only [List.getElem?_cons_zero, Option.some.injEq, Prod.mk.injEq] at hi
    obtain ⟨rfl, rfl⟩ := hi
    obtain ⟨ad, len, cap, e', hl, hc, hm, ro⟩ := ownS_row a
    rw [bcells_len] at hl
    exact ⟨f0, ad, len, cap, by simp [e], e', by omega, hc, hm, ro.mono s1⟩
  | (k0, v0) :: r, (k1, f0) :: r', g, i + 1, nm, v, ⟨e, h1, h2, d, s1, s2, a, g1, g2, _, t1, t2, a', _⟩, hi => by
    obtain ⟨f, ad, l, c, h3, h4, h5, h6, h7, h8⟩ := vals_nth a' (by simpa using hi)
    exact ⟨f, ad, l, c, by simpa using h3, h4, h5, h6, h7, h8.mono (t1.trans s2)⟩
/-- What stands at a place of the document's disk. -/
theorem file_at {w : World} {L : List Hp} {a : Option Addr} {len cap i : Nat} {gs : List (ByteArray × Value)} {fs : List (ByteArray × List UInt8)} (n m : Nat) (h : Sat w L) (hL : L[n]? = some (OwnS 76 2 (.slice a len cap) (fcells gs))) (hM : L[m]? = some (valsR gs fs)) (hi : i < gs.length) :
    ∃ bb C fr nm a1 l1 c1 f, a = some ⟨bb, 0, none⟩ ∧ gs[i]? = some (nm, .slice a1 l1 c1) ∧ fs[i]? = some (nm, f) ∧ l1 = f.length ∧ l1 ≤ c1 ∧ c1 ≤ 9223372036854775807 ∧ w.heap[bb]? = some (.cells C 76 fr) ∧
      cutL C (0 + i * 2) 2 = some [.string nm, .slice a1 l1 c1] ∧ C[0 + i * 2 + 1]? = some (.slice a1 l1 c1) ∧ ∀ g, valsR gs fs g → RowH g a1 (bcells f) := by
  obtain ⟨p, hp⟩ : ∃ p, gs[i]? = some p := ⟨_, List.getElem?_eq_getElem hi⟩
  obtain ⟨nm, v⟩ := p
  obtain ⟨g, s, x⟩ := SatH.get m h hM
  obtain ⟨f, a1, l1, c1, h1, rfl, h3, h4, h5, h6⟩ := vals_nth x hp
  obtain ⟨g', s', x'⟩ := SatH.get n h hL
  rcases x' with ⟨a', _, e⟩ | ⟨b, len', cap', C, fr, e, hb, h7, h8, h9, h10, h11, h12⟩
  · have := fcells_len gs
    rw [e] at this
    simp at this
    omega
  · injection e with e1 e2 e3
    subst e1 e2 e3
    rw [fcells_len] at h7
    have hC : ∀ (j : Nat) (v : Value), (fcells gs)[j]? = some v → C[0 + j]? = some v := fun j v hv => by
      rw [Nat.zero_add]
      have : j < gs.length * 2 := by rw [← fcells_len]; exact (List.getElem?_eq_some_iff.1 hv).1
      rw [h11 j (by omega)]
      exact hv
    refine ⟨b, C, fr, nm, a1, l1, c1, f, rfl, hp, h1, h3, h4, h5, s' _ _ hb, cut_pair hC hp, ?_, fun g2 x2 => ?_⟩
    · have := hC _ _ (fcells_get hp).2
      rwa [show 0 + i * 2 + 1 = 0 + (i * 2 + 1) by omega]
    · obtain ⟨f', a', l', c', e1, e2, _, _, _, r⟩ := vals_nth x2 hp
      rw [h1] at e1
      obtain ⟨_, rfl⟩ := Prod.mk.inj (Option.some.inj e1)
      obtain ⟨rfl, _, _⟩ := Value.slice.inj e2
      exact r
theorem find_hit {gs : List (ByteArray × Value)} {fs : List (ByteArray × List UInt8)} {name nm : ByteArray} {v : Value} {i : Nat} (hk : keys gs = keys fs) (hp : i ≤ pos gs name) (hi : gs[i]? = some (nm, v)) (e : nm = name) : findI fs name = i := by
  obtain ⟨h1, h2⟩ := (pos_at hp hi).1 e
  rw [findI, ← kget_of_keys hk, h2, ← pos_keys hk, h1]
  rfl
theorem find_miss {gs : List (ByteArray × Value)} {fs : List (ByteArray × List UInt8)} {name : ByteArray} (hk : keys gs = keys fs) (hp : gs.length ≤ pos gs name) : findI fs name = -1 := by
  have : kget gs name = none := by
    cases e : kget gs name with
    | none => rfl
    | some v => have := (pos_some e).1; omega
  rw [findI, ← kget_of_keys hk, this]
  rfl
theorem findI_some {fs : List (ByteArray × List UInt8)} {name : ByteArray} {f : List UInt8} (h : kget fs name = some f) : findI fs name = pos fs name ∧ fs[pos fs name]? = some (name, f) := by
  rw [findI, h]; exact ⟨rfl, (pos_some h).2⟩
theorem findI_none {fs : List (ByteArray × List UInt8)} {name : ByteArray} (h : kget fs name = none) : findI fs name = -1 := by
  rw [findI, h]; rfl
theorem vals_filter (p : ByteArray → Bool) : ∀ {gs : List (ByteArray × Value)} {fs : List (ByteArray × List UInt8)} {h : Part}, valsR gs fs h → valsR (gs.filter fun x => p x.1) (fs.filter fun x => p x.1) h
  | [], [], _, _ => trivial
  | (k0, v0) :: r, (k1, f0) :: r', h, ⟨e, h1, h2, d, s1, s2, a, g1, g2, d2, t1, t2, a', q⟩ => by
    subst e
    simp only [List.filter_cons]
    by_cases hp : p k0 = true
    · simp only [hp, if_true]
      exact ⟨rfl, h1, h2, d, s1, s2, a, g1, g2, d2, t1, t2, vals_filter p a', q⟩
    · simp only [hp]
      exact valsR_mono (vals_filter p a') (t1.trans s2)
  | [], _ :: _, _, h => h.elim
  | _ :: _, [], _, h => h.elim
theorem may_end {s : ByteArray} {i : Nat} (hi : s.size ≤ i) (h : (s.data.toList.take i).all mayB = true) : may s = (decide (1 ≤ s.size) && decide (s.size ≤ 32)) := by
  rw [List.take_of_length_le (by have : s.data.toList.length = s.size := rfl; omega)] at h
  rw [may, h, Bool.and_true]
section
variable {W : DiskV} (hcut : W.cut = true → 0 ≤ W.left ∧ W.left ≤ 9223372036854775807)
theorem ref_stop (h : (if W.cut then W.left else -1) = 0) : W.stop = true := by
  cases e : W.cut with
  | true => rw [e] at h; simp at h; simp [DiskV.stop, e, h]
  | false => rw [e] at h; simp at h
theorem ref_go (h : ¬(if W.cut then W.left else -1) = 0) : W.stop = false := by
  cases e : W.cut with
  | true => rw [e] at h; simp at h; simp [DiskV.stop, e, h]
  | false => simp [DiskV.stop, e]
theorem ref_cut (h : (0 : Int) < (if W.cut then W.left else -1)) : W.cut = true ∧ 0 < W.left := by
  cases e : W.cut with
  | true => rw [e] at h; simp at h; exact ⟨rfl, h⟩
  | false => rw [e] at h; simp at h
include hcut in
theorem ref_not (h0 : ¬(if W.cut then W.left else -1) = 0) (h : ¬(0 : Int) < (if W.cut then W.left else -1)) : W.cut = false := by
  cases e : W.cut with
  | true => rw [e] at h h0; simp at h h0; have := hcut e; omega
  | false => rfl
include hcut in
theorem went_cut : W.stop = false → W.went.cut = true → 0 ≤ W.went.left ∧ W.went.left ≤ 9223372036854775807 := by
  intro hs hc
  have hc' : W.cut = true := hc
  have := hcut hc'
  have h0 : W.left ≠ 0 := by
    intro e; simp [DiskV.stop, hc', e] at hs
  have e : W.went.left = W.left - 1 := by
    simp only [DiskV.went, hc', if_true]
    exact wrap_id ⟨by omega, by omega⟩
  omega
end
def off (name : ByteArray) (k : ByteArray) : Bool := !decide (k = name)
theorem filter_on {gs : List (ByteArray × Value)} {name nm : ByteArray} {v : Value} {i : Nat} (hi : gs[i]? = some (nm, v)) (e : ¬nm = name) : ((gs.take (i + 1)).filter fun x => off name x.1) = ((gs.take i).filter fun x => off name x.1) ++ [(nm, v)] := by
  rw [List.take_add_one, hi, List.filter_append]
  simp [off, e]
theorem filter_off {gs : List (ByteArray × Value)} {name nm : ByteArray} {v : Value} {i : Nat} (hi : gs[i]? = some (nm, v)) (e : nm = name) : ((gs.take (i + 1)).filter fun x => off name x.1) = ((gs.take i).filter fun x => off name x.1) := by
  rw [List.take_add_one, hi, List.filter_append]
  simp [off, e]
theorem findI_neg {fs : List (ByteArray × List UInt8)} {name : ByteArray} (h : findI fs name < 0) : kget fs name = none := by
  cases e : kget fs name with
  | none => rfl
  | some f => rw [(findI_some e).1] at h; omega
theorem findI_pos {fs : List (ByteArray × List UInt8)} {name : ByteArray} (h : ¬findI fs name < 0) : ∃ f, kget fs name = some f ∧ findI fs name = ((pos fs name : Nat) : Int) := by
  cases e : kget fs name with
  | none => rw [findI_none e] at h; omega
  | some f => exact ⟨f, rfl, (findI_some e).1⟩
def DiskV.rremove (W : DiskV) (name : ByteArray) : DiskV × Int :=
  match kget W.files name with
  | none => (W, 4)
  | some _ => W.raw fun fs => fs.filter fun x => off name x.1
def DiskV.rrename (W : DiskV) (src dst : ByteArray) : DiskV × Int :=
  if may dst = false then (W, 2)
  else match kget W.files src with
    | none => (W, 4)
    | some f => if src = dst then (W, 0) else W.raw fun fs => (fs.filter fun x => off dst x.1).set (pos (fs.filter fun x => off dst x.1) src) (dst, f)
section
variable {D : DiskV} {name : ByteArray} {bs f : List UInt8}
theorem rremove_none (hf : kget D.files name = none) : D.rremove name = (D, 4) := by simp [DiskV.rremove, hf]
theorem rremove_go (hf : kget D.files name = some f) : D.rremove name = D.raw fun fs => fs.filter fun x => off name x.1 := by simp [DiskV.rremove, hf]
theorem rrename_bad {dst : ByteArray} (h : ¬may dst = true) : D.rrename name dst = (D, 2) := by simp [DiskV.rrename, h]
theorem rrename_none {dst : ByteArray} (h : may dst = true) (hf : kget D.files name = none) : D.rrename name dst = (D, 4) := by simp [DiskV.rrename, h, hf]
theorem rrename_same {dst : ByteArray} (h : may dst = true) (hf : kget D.files name = some f) (e : name = dst) : D.rrename name dst = (D, 0) := by subst e; simp [DiskV.rrename, h, hf]
theorem rrename_go {dst : ByteArray} (h : may dst = true) (hf : kget D.files name = some f) (e : ¬name = dst) : D.rrename name dst = D.raw fun fs => (fs.filter fun x => off dst x.1).set (pos (fs.filter fun x => off dst x.1) name) (dst, f) := by simp [DiskV.rrename, h, hf, e]
theorem kget_off {α : Type} {fs : List (ByteArray × α)} {n k : ByteArray} (h : ¬n = k) : kget (fs.filter fun x => off k x.1) n = kget fs n := by
  induction fs with
  | nil => rfl
  | cons p r ih =>
    obtain ⟨k0, v⟩ := p
    simp only [List.filter_cons, off]
    by_cases e : k0 = k
    · subst e
      have e2 : ¬k0 = n := fun x => h x.symm
      simp only [decide_true, Bool.not_true, Bool.false_eq_true, if_false, kget, if_neg e2]
      exact ih
    · simp only [e, decide_false, Bool.not_false, if_true, kget]
      rw [show (r.filter fun x => !decide (x.1 = k)) = r.filter fun x => off k x.1 from rfl, ih]
end
/-- The document's disk, a name that is there: what stands at its place. -/
theorem file_of {w : World} {L : List Hp} {a : Option Addr} {len cap : Nat} {gs : List (ByteArray × Value)} {fs : List (ByteArray × List UInt8)} {name : ByteArray} {f : List UInt8} (n m : Nat) (h : Sat w L) (hL : L[n]? = some (OwnS 76 2 (.slice a len cap) (fcells gs))) (hM : L[m]? = some (valsR gs fs)) (hf : kget fs name = some f) :
    ∃ bb C fr fa fl fc, a = some ⟨bb, 0, none⟩ ∧ kget gs name = some (.slice fa fl fc) ∧ pos gs name = pos fs name ∧ pos fs name < gs.length ∧ fl = f.length ∧ fl ≤ fc ∧ fc ≤ 9223372036854775807 ∧ w.heap[bb]? = some (.cells C 76 fr) ∧
      C[0 + pos fs name * 2 + 1]? = some (.slice fa fl fc) := by
  have hk := Sat.vkeys m h hM
  have hp := pos_keys hk name
  have hlt : pos fs name < gs.length := by rw [len_of_keys hk]; exact (pos_some hf).1
  obtain ⟨bb, C, fr, nm, a1, l1, c1, f1, ea, hgi, hfi, hl, hc, hm, hb, _, hcb, _⟩ := file_at n m h hL hM hlt
  have e1 := (pos_some hf).2
  rw [hfi] at e1
  obtain ⟨rfl, rfl⟩ := Prod.mk.inj (Option.some.inj e1)
  have hg : kget gs nm = some (.slice a1 l1 c1) := ((pos_at (k := nm) (by omega) hgi).1 rfl).2
  exact ⟨bb, C, fr, a1, l1, c1, ea, hg, hp, hlt, hl, hc, hm, hb, hcb⟩
/-- The same, its row opened. -/
theorem file_open {w : World} {L : List Hp} {a : Option Addr} {len cap : Nat} {gs : List (ByteArray × Value)} {fs : List (ByteArray × List UInt8)} {name : ByteArray} {f : List UInt8} (n m : Nat) (h : Sat w L) (hL : L[n]? = some (OwnS 76 2 (.slice a len cap) (fcells gs))) (hM : L[m]? = some (valsR gs fs)) (hf : kget fs name = some f) :
    ∃ bb C fr fa fl fc, a = some ⟨bb, 0, none⟩ ∧ kget gs name = some (.slice fa fl fc) ∧ pos gs name = pos fs name ∧ pos fs name < gs.length ∧ fl = f.length ∧ fl ≤ fc ∧ fc ≤ 9223372036854775807 ∧ len = gs.length ∧
      C[0 + pos fs name * 2 + 1]? = some (.slice fa fl fc) ∧ RowOk 76 2 len cap C fr (fcells gs) ∧ Sat w (L.set n (pt bb (.cells C 76 fr))) := by
  obtain ⟨bb, C, fr, fa, fl, fc, ea, hg, hp, hlt, hl, hc, hm, hb, hcb⟩ := file_of n m h hL hM hf
  have hlen : len = gs.length := by
    obtain ⟨_, n', _, e, hl', _⟩ := Sat.ownRow n h hL
    injection e with _ e2 _
    rw [fcells_len] at hl'
    omega
  obtain ⟨b2, C2, fr2, e2, rok, h2⟩ := Sat.ownOpen n h hL (by omega)
  have hb2 : w.heap[b2]? = some (.cells C2 76 fr2) := h2.at_ n (by
    have : n < L.length := (List.getElem?_eq_some_iff.1 hL).1
    simp [this])
  rw [ea] at e2
  simp only [Option.some.injEq, Addr.mk.injEq, and_true] at e2
  subst e2
  rw [hb] at hb2
  simp only [Option.some.injEq, Obj.cells.injEq] at hb2
  obtain ⟨rfl, _, rfl⟩ := hb2
  exact ⟨bb, C, fr, fa, fl, fc, ea, hg, hp, hlt, hl, hc, hm, hlen, hcb, rok, h2⟩
theorem vals_ren : ∀ {gs : List (ByteArray × Value)} {fs : List (ByteArray × List UInt8)} {h : Part} (i : Nat) {k : ByteArray} {v : Value} {f : List UInt8} (s : ByteArray), valsR gs fs h → gs[i]? = some (k, v) → fs[i]? = some (k, f) → valsR (gs.set i (s, v)) (fs.set i (s, f)) h
  | [], _, _, i, _, _, _, _, _, e, _ => by simp at e
  | _ :: _, [], _, _, _, _, _, _, h, _, _ => h.elim
  | (k0, v0) :: r, (k1, f0) :: r', h, 0, k, v, f, s, ⟨e, a⟩, e1, e2 => by
    simp only [List.getElem?_cons_zero, Option.some.injEq, Prod.mk.injEq] at e1 e2
    obtain ⟨rfl, rfl⟩ := e1
    obtain ⟨rfl, rfl⟩ := e2
    exact ⟨rfl, a⟩
  | (k0, v0) :: r, (k1, f0) :: r', h, i + 1, k, v, f, s, ⟨e, h1, h2, d, s1, s2, a, g1, g2, d2, t1, t2, a', q⟩, e1, e2 =>
    ⟨e, h1, h2, d, s1, s2, a, g1, g2, d2, t1, t2, vals_ren i s a' (by simpa using e1) (by simpa using e2), q⟩
theorem vals_keep {fs : List (ByteArray × List UInt8)} {name dst : ByteArray} {f : List UInt8} (hne : ¬name = dst) (hf : kget fs name = some f) : kget (fs.filter fun x => off dst x.1) name = some f := by
  rw [kget_off hne]; exact hf
/-- What an Append does behind its tests. -/
def DiskV.rest (W : DiskV) (name : ByteArray) (bs : List UInt8) : DiskV × Int :=
  if (kget W.files name).isNone ∧ bs = [] then W.raw fun fs => kset fs name [] else W.pieces name bs
section
variable {W : DiskV} {name : ByteArray} {bs : List UInt8}
theorem rest_stop (hs : W.stop = true) (h : bs ≠ [] ∨ kget W.files name = none) : W.rest name bs = (W, 6) := by
  unfold DiskV.rest
  split
  · exact raw_stop hs
  · rename_i hn
    refine pieces_stop ?_ hs
    rcases h with h | h
    · exact h
    · intro e; exact hn ⟨by simp [h], e⟩
theorem rest_done (h : (kget W.files name).isSome = true) : W.rest name [] = (W, 0) := by
  unfold DiskV.rest
  rw [if_neg (by rintro ⟨a, _⟩; cases e : kget W.files name <;> simp [e] at a h), pieces_nil]
theorem rest_go (hs : W.stop = false) (h : bs ≠ [] ∨ kget W.files name = none) :
    W.rest name bs = DiskV.rest { W.went with files := kset W.files name (((kget W.files name).getD []) ++ bs.take 32) } name (bs.drop 32) := by
  have hi : ((kget (kset W.files name (((kget W.files name).getD []) ++ bs.take 32)) name).isNone ∧ bs.drop 32 = []) ↔ False := by
    rw [kget_kset]; simp
  conv => rhs; unfold DiskV.rest
  simp only [hi, if_false]
  unfold DiskV.rest
  by_cases hb : bs = []
  · subst hb
    have hn : kget W.files name = none := by
      rcases h with h | h
      · exact absurd rfl h
      · exact h
    rw [if_pos ⟨by simp [hn], rfl⟩, raw_go hs]
    simp [hn, pieces_nil]
  · rw [if_neg (by rintro ⟨_, a⟩; exact hb a), pieces_go hb hs]
theorem append_rest (h : may name = true) (h1 : kget W.files name = none → ¬W.files.length = 256) (h2 : bs.length ≤ 4194304) (h3 : ∀ f, kget W.files name = some f → f.length + bs.length ≤ 4194304) : W.append name bs = W.rest name bs := by
  unfold DiskV.rest
  cases e : kget W.files name with
  | none =>
    by_cases hb : bs = []
    · rw [if_pos ⟨rfl, hb⟩, append_none h e (h1 e) hb]
    · rw [if_neg (by rintro ⟨_, a⟩; exact hb a), append_new h e (h1 e) (by omega) hb]
  | some f =>
    rw [if_neg (by rintro ⟨a, _⟩; cases a)]
    exact append_go h e (by have := h3 f e; omega)
end
theorem valsH_snoc : ∀ {gs : List (ByteArray × Value)} {fs : List (ByteArray × List UInt8)} {k : ByteArray} {v : Value} {f : List UInt8} {h : Part}, SatH [valsR gs fs, OwnS 5 1 v (bcells f)] h → valsR (gs ++ [(k, v)]) (fs ++ [(k, f)]) h
  | [], [], k, v, f, h, a => ⟨rfl, a.tail.mono (hsub.refl _) |> fun ⟨h1, h2, d, s1, s2, x, _⟩ => ⟨h1, h2, d, s1, s2, x, fun _ => none, fun _ => none, fun _ => .inl rfl, (fun _ _ e => by cases e), (fun _ _ e => by cases e), trivial, trivial⟩⟩
  | (k0, v0) :: r, (k1, f0) :: r', k, v, f, h, ⟨h1, h2, d, s1, s2, ⟨e, a⟩, b⟩ => by
    refine ⟨e, ?_⟩
    have h3 : SatH ([OwnS 5 1 v0 (bcells f0), valsR r r'] ++ [OwnS 5 1 v (bcells f)]) h := SatH.join ⟨h1, h2, d, s1, s2, a, b⟩
    exact h3.cons_mono fun g x => ⟨g, fun _ => none, fun _ => .inr rfl, hsub.refl _, (fun _ _ e => by cases e), valsH_snoc x, trivial⟩
  | [], _ :: _, _, _, _, _, ⟨_, _, _, _, _, a, _⟩ => a.elim
  | _ :: _, [], _, _, _, _, ⟨_, _, _, _, _, a, _⟩ => a.elim
theorem vals_snoc {gs : List (ByteArray × Value)} {fs : List (ByteArray × List UInt8)} (k : ByteArray) {v : Value} {f : List UInt8} {w : World} {R : List Hp} (h : Sat w (OwnS 5 1 v (bcells f) :: valsR gs fs :: R)) : Sat w (valsR (gs ++ [(k, v)]) (fs ++ [(k, f)]) :: R) :=
  (Sat.part (L := [_, _]) h.swap).head fun _ a => valsH_snoc a
theorem take_snoc {α : Type} {l : List α} {i : Nat} {x : α} (h : l[i]? = some x) : l.take (i + 1) = l.take i ++ [x] := by
  rw [List.take_add_one, h]; rfl
end Go.Proofs.YtmhpgdpegneejaaDoor
