import Derived.Test.YtmhpgdpegneejaaDoorSl2
set_option linter.unusedVariables false
set_option linter.unusedSimpArgs false
namespace Go.Proofs.Slx
open Go

/-! ### 15. Parts of the heap that change -/
theorem SatH.upd {A : Hp} : ∀ {L : List Hp} (n : Nat) {h : Part}, SatH L h → L[n]? = some A → ∃ g, hsub g h ∧ A g ∧
    ∀ (B : Hp) (g' h' : Part), B g' → hsub g' h' → (∀ i, g' i = none ∨ g i ≠ none ∨ h i = none) → (∀ i o, g i = none → h i = some o → h' i = some o) → SatH (L.set n B) h'
  | [], n, _, _, e => by simp at e
  | A0 :: L, 0, h, ⟨h1, h2, d, s1, s2, a, r⟩, e => by
    simp at e; subst e
    refine ⟨h1, s1, a, fun B g' h' hB hs hd hk => ⟨g', h2, fun i => ?_, hs, fun i o e => ?_, hB, r⟩⟩
    · rcases hd i with e | e | e
      · exact .inl e
      · exact .inr ((d i).resolve_left e)
      · refine .inr ?_
        cases e2 : h2 i with
        | none => rfl
        | some o => rw [s2 i o e2] at e; cases e
    · refine hk i o ?_ (s2 i o e)
      rcases d i with e1 | e1
      · exact e1
      · rw [e] at e1; cases e1
  | A0 :: L, n + 1, h, ⟨h1, h2, d, s1, s2, a, r⟩, e => by
    obtain ⟨g, sg, ag, k⟩ := SatH.upd n r (by simpa using e)
    have hg1 : ∀ i o, h1 i = some o → g i = none := fun i o e1 => by
      cases eg : g i with
      | none => rfl
      | some u =>
        have e2 := sg i u eg
        rcases d i with e3 | e3
        · rw [e1] at e3; cases e3
        · rw [e2] at e3; cases e3
    refine ⟨g, sg.trans s2, ag, fun B g' h' hB hs hd hk => ⟨h1, fun i => if (g' i).isSome then g' i else if (g i).isSome then none else h2 i, fun i => ?_, fun i o e1 => ?_, fun i o e1 => ?_, a, ?_⟩⟩
    · cases e1 : h1 i with
      | none => exact .inl rfl
      | some o =>
        refine .inr ?_
        have hgn := hg1 i o e1
        have h2n : h2 i = none := by
          rcases d i with e3 | e3
          · rw [e1] at e3; cases e3
          · exact e3
        have hg'n : g' i = none := by
          rcases hd i with e | e | e
          · exact e
          · exact absurd hgn e
          · rw [s1 i o e1] at e; cases e
        simp [hg'n, hgn, h2n]
    · exact hk i o (hg1 i o e1) (s1 i o e1)
    · simp only at e1
      split at e1
      · exact hs i o e1
      · split at e1
        · cases e1
        · rename_i hgn
          exact hk i o (by simpa using hgn) (s2 i o e1)
    · refine k B g' _ hB (fun i o e1 => by simp [e1]) (fun i => ?_) (fun i o e1 e2 => ?_)
      · rcases hd i with e | e | e
        · exact .inl e
        · exact .inr (.inl e)
        · refine .inr (.inr ?_)
          cases e2 : h2 i with
          | none => rfl
          | some o => rw [s2 i o e2] at e; cases e
      · have hg'n : g' i = none := by
          rcases hd i with e | e | e
          · exact e
          · exact absurd e1 e
          · rw [s2 i o e2] at e; cases e
        simp [hg'n, e1, e2]
theorem Sat.upd {w : World} {L : List Hp} {A : Hp} (n : Nat) (h : Sat w L) (e : L[n]? = some A) : ∃ g, hsub g (hof w) ∧ A g ∧
    ∀ (B : Hp) (g' : Part) (w' : World), B g' → hsub g' (hof w') → (∀ i, g' i = none ∨ g i ≠ none ∨ w.heap[i]? = none) → (∀ i o, g i = none → w.heap[i]? = some o → w'.heap[i]? = some o) → Sat w' (L.set n B) := by
  obtain ⟨g, s, a, k⟩ := SatH.upd n h e
  exact ⟨g, s, a, fun B g' w' => k B g' (hof w')⟩

/-! ### 16. Slices -/
/-- The cells vs stand from a on. -/
def RowH (h : Part) (a : Option Addr) (vs : List Value) : Prop :=
  vs = [] ∨ ∃ b o C E fr, a = some ⟨b, o, none⟩ ∧ h b = some (.cells C E fr) ∧ ∀ (i : Nat) (v : Value), vs[i]? = some v → C[o + i]? = some v
def RowW (w : World) (a : Option Addr) (vs : List Value) : Prop := RowH (hof w) a vs
theorem RowH.mono {h h' : Part} {a : Option Addr} {vs : List Value} (r : RowH h a vs) (s : hsub h h') : RowH h' a vs := by
  rcases r with r | ⟨b, o, C, E, fr, e, hb, k⟩
  · exact .inl r
  · exact .inr ⟨b, o, C, E, fr, e, s _ _ hb, k⟩
theorem RowW.nil (w : World) (a : Option Addr) : RowW w a [] := .inl rfl
theorem RowW.get {w : World} {a : Option Addr} {vs : List Value} (r : RowW w a vs) {i : Nat} {v : Value} (hi : vs[i]? = some v) :
    ∃ b o C E fr, a = some ⟨b, o, none⟩ ∧ w.heap[b]? = some (.cells C E fr) ∧ ∀ (i : Nat) (v : Value), vs[i]? = some v → C[o + i]? = some v := by
  rcases r with r | r
  · subst r; simp at hi
  · exact r
theorem RowH.drop {h : Part} {a : Option Addr} {vs : List Value} (r : RowH h a vs) (lo sz cap : Nat) (hc : vs.length ≤ cap * sz) : RowH h (adv a lo sz cap) (vs.drop (lo * sz)) := by
  by_cases hl : vs.length ≤ lo * sz
  · exact .inl (List.drop_eq_nil_of_le hl)
  · rcases r with r | ⟨b, o, C, E, fr, e, hb, k⟩
    · subst r; simp at hl
    · refine .inr ⟨b, o + lo * sz, C, E, fr, ?_, hb, fun i v hv => ?_⟩
      · subst e
        unfold adv
        rw [if_neg (by rintro rfl; omega)]
        simp [addr_add]
      · rw [List.getElem?_drop] at hv
        have := k _ _ hv
        rwa [show o + lo * sz + i = o + (lo * sz + i) by omega]
theorem RowH.take {h : Part} {a : Option Addr} {vs : List Value} (r : RowH h a vs) (n : Nat) : RowH h a (vs.take n) := by
  rcases r with r | ⟨b, o, C, E, fr, e, hb, k⟩
  · exact .inl (by simp [r])
  · refine .inr ⟨b, o, C, E, fr, e, hb, fun i v hv => ?_⟩
    rw [List.getElem?_take] at hv
    split at hv
    · exact k _ _ hv
    · cases hv
theorem RowW.drop {w : World} {a : Option Addr} {vs : List Value} (r : RowW w a vs) (lo sz cap : Nat) (hc : vs.length ≤ cap * sz) : RowW w (adv a lo sz cap) (vs.drop (lo * sz)) := RowH.drop r lo sz cap hc
theorem RowW.take {w : World} {a : Option Addr} {vs : List Value} (r : RowW w a vs) (n : Nat) : RowW w a (vs.take n) := RowH.take r n

/-- A slice of the call's own: v has the elements' cells vs. -/
def OwnS (E sz : Nat) (v : Value) (vs : List Value) : Hp := fun h =>
  (∃ a, v = .slice a 0 0 ∧ vs = []) ∨
  ∃ b len cap C fr, v = .slice (some ⟨b, 0, none⟩) len cap ∧ h b = some (.cells C E fr) ∧ vs.length = len * sz ∧ C.size = cap * sz ∧ len ≤ cap ∧ cap ≤ 9223372036854775807 ∧
    (∀ i : Nat, i < len * sz → C[i]? = vs[i]?) ∧ (fr.2 ≤ fr.1 ∨ C.size ≤ fr.1)
theorem ownS_nil (E sz : Nat) (a : Option Addr) : ∀ h, OwnS E sz (.slice a 0 0) [] h := fun _ => .inl ⟨a, rfl, rfl⟩
theorem ownS_row {E sz : Nat} {v : Value} {vs : List Value} {h : Part} (o : OwnS E sz v vs h) : ∃ a len cap, v = .slice a len cap ∧ vs.length = len * sz ∧ len ≤ cap ∧ cap ≤ 9223372036854775807 ∧ RowH h a vs := by
  rcases o with ⟨a, rfl, rfl⟩ | ⟨b, len, cap, C, fr, rfl, hb, hl, hC, hlc, hcm, hk, hf⟩
  · exact ⟨a, 0, 0, rfl, (Nat.zero_mul sz).symm, Nat.le_refl _, Nat.zero_le _, .inl rfl⟩
  · refine ⟨_, len, cap, rfl, hl, hlc, hcm, .inr ⟨b, 0, C, E, fr, rfl, hb, fun i v hv => ?_⟩⟩
    have hi : i < len * sz := by rw [← hl]; exact (List.getElem?_eq_some_iff.1 hv).1
    rw [Nat.zero_add, hk i hi, hv]
theorem Sat.ownRow {w : World} {L : List Hp} {E sz : Nat} {v : Value} {vs : List Value} (n : Nat) (h : Sat w L) (hL : L[n]? = some (OwnS E sz v vs)) :
    ∃ a len cap, v = .slice a len cap ∧ vs.length = len * sz ∧ len ≤ cap ∧ cap ≤ 9223372036854775807 ∧ RowW w a vs := by
  obtain ⟨g, s, a⟩ := SatH.get n h hL
  obtain ⟨a, len, cap, e, hl, hc, hcm, r⟩ := ownS_row a
  exact ⟨a, len, cap, e, hl, hc, hcm, r.mono s⟩

/-- What is appended: m elements, their cells xs; wherever the heap is w's. -/
def Src (P : Program) (w : World) (sz : Nat) (x : Value) (m : Nat) (xs : List Value) : Prop :=
  (∀ w', w'.heap = w.heap → (Builtin.lenOf x).run P w' = .ok m w' ∧ (Builtin.firstCells sz m x).run P w' = .ok xs.toArray w') ∧ xs.length = m * sz ∧ ones xs = true
theorem Src.slice {P : Program} {w : World} {sz : Nat} {a : Option Addr} {m c : Nat} {xs : List Value} (r : RowW w a xs) (hl : xs.length = m * sz) (h1 : ones xs = true) : Src P w sz (.slice a m c) m xs := by
  refine ⟨fun w' hw => ⟨rfl, ?_⟩, hl, h1⟩
  cases a with
  | none =>
    have : xs = [] := by
      rcases r with r | ⟨b, o, C, E, fr, e, _⟩
      · exact r
      · cases e
    subst this
    simp [Builtin.firstCells]
  | some a =>
    refine run_firstCells_some w' sz m a m c xs hl fun j v hv => ?_
    obtain ⟨b, o, C, E, fr, e, hb, k⟩ := r.get hv
    simp only [Option.some.injEq] at e
    subst e
    rw [addr_add, cell_at (by rw [hw]; exact hb)]
    exact k _ _ hv
def bcells (s : List UInt8) : List Value := s.map fun b => .int .u8 b.toNat
theorem ones_bcells (s : List UInt8) : ones (bcells s) = true := by
  simp [ones, bcells, Value.oneCell']
theorem bcells_length (s : List UInt8) : (bcells s).length = s.length := by simp [bcells]
theorem Src.string {P : Program} {w : World} (s : ByteArray) : Src P w 1 (.string s) s.size (bcells s.data.toList) := by
  refine ⟨fun w' hw => ⟨rfl, ?_⟩, ?_, ones_bcells _⟩
  · simp only [Builtin.firstCells, Sem.run_pure, Result.ok.injEq, and_true, ByteArray.data_extract]
    rw [show s.size = s.data.size from rfl, Array.extract_size]
    apply Array.ext'
    simp only [bcells, Array.toList_map]
  · rw [bcells_length, Nat.mul_one]; exact Array.length_toList

/-- The kind of what is appended: no whole number (append of make). -/
def noInt (P : Program) (u : TypeId) : Prop := (∃ e, P.underlying u = some (.slice e)) ∨ P.underlying u = some .string

section
variable {P : Program} {w : World} {t u ty e : TypeId} {sz by_ : Nat} {z : Value}
theorem run_app_fit (ht : P.underlying t = some (.slice e)) (hu : noInt P u) (he : Sz P e sz by_ z) {base : Option Addr} {sLen sCap m : Nat} {x : Value} {xs : List Value} (hx : Src P w sz x m xs) (hfit : sLen + m ≤ sCap)
    {w' : World} (hst : ((match base with | some a => storeCells (a.add (sLen * sz)) xs | none => pure () : Sem Unit)).run P w = .ok () w') :
    (Builtin.append_ #[t, u] ty #[.slice base sLen sCap, x]).run P w = .ok (.slice base (sLen + m) sCap) w' := by
  obtain ⟨h1, h2⟩ := hx.1 w rfl
  rcases hu with ⟨_, hd⟩ | hd
  all_goals
    cases base with
    | none =>
      simp at hst
      subst hst
      simp [Builtin.append_, und_run ht, und_run hd, he.siz, h1, h2, hfit]
    | some a =>
      simp only at hst
      simp [Builtin.append_, und_run ht, und_run hd, he.siz, h1, h2, hfit, hst]
theorem run_app_grow (ht : P.underlying t = some (.slice e)) (hu : noInt P u) (he : Sz P e sz by_ z) {base : Option Addr} {sLen sCap m : Nat} {x : Value} {xs vs : List Value} (hx : Src P w sz x m xs)
    (hv : ∀ w', w'.heap = w.heap → (Builtin.firstCells sz sLen (.slice base sLen sCap)).run P w' = .ok vs.toArray w') (hgrow : sCap < sLen + m) (hb : (sLen + m) * by_ ≤ 140737488355328) (hm : sLen + m ≤ 9223372036854775807) :
    ∃ cap w', (Builtin.append_ #[t, u] ty #[.slice base sLen sCap, x]).run P w = .ok (.slice (some ⟨w.heap.size, 0, none⟩) (sLen + m) cap) w' ∧ sLen + m ≤ cap ∧ cap ≤ 9223372036854775807 ∧
      w'.heap = w.heap.push (.cells ((vs ++ xs).toArray ++ Builtin.zeroCells z.cells (cap - (sLen + m))) e) ∧ io w' = io w := by
  obtain ⟨h1, _⟩ := hx.1 w rfl
  obtain ⟨_, h2⟩ := hx.1 w.drew rfl
  have hv' := hv w.drew rfl
  obtain ⟨i, hif, hti, hsz, hby, hz⟩ := he.info w
  have hn : ¬ (sLen + m ≤ sCap) := by omega
  have h63' : ¬ (9223372036854775807 < ((sLen : Int) + (m : Int))) := by omega
  have hfits := growslice_fits (need := sLen + m) (old := sCap) hgrow hb
  have h48' : ¬ (281474976710656 < Builtin.nextslicecap (sLen + m) sCap * by_) := by omega
  have hge := grownCap_ge w (sLen + m) sCap e
  have hle := grownCap_le_maxLen w (sLen + m) sCap e (by simp only [maxLen]; omega)
  have hz' : ∀ w', (zeroValue e).run P w' = .ok z w' := fun w' => he.zer w'
  have hti' : ∀ w', (typeInfo e).run P w' = .ok i w' := fun w' => by simp [typeInfo, program, Sem.run, hif]
  refine ⟨grownCap w (sLen + m) sCap e, w.drew.alloc (.cells ((vs ++ xs).toArray ++ Builtin.zeroCells z.cells (grownCap w (sLen + m) sCap e - (sLen + m))) e), ?_, hge, by simpa [maxLen] using hle, rfl, rfl⟩
  have hbn : ¬ (281474976710656 < Builtin.nextslicecap (sLen + m) sCap * i.bytes) := by rw [hby]; exact h48'
  rcases hu with ⟨_, hd⟩ | hd
  all_goals
    simp [Builtin.append_, und_run ht, und_run hd, he.siz, h1, hn, h63', hti', hbn, Question.forced, hv', h2, hz', newRow, grownCap]
    congr 2
    apply Array.ext'
    simp [List.append_assoc]

/-- append: whatever is appended to what is the call's own. -/
theorem ef_append {c : Place} {ds : List Deferred} {l : Env} {K : Env → World → Prop} {L : List Hp} {pos : String} {af : Array Edge} {g : Option (Nat × Bool)} {x y : Operand} {d : Nat} {vx vy : Value} {m : Nat} {vs xs : List Value}
    (ht : c.P.underlying t = some (.slice e)) (hu : noInt c.P u) (he : Sz c.P e sz by_ z) (hz : z.cells.size = sz) (n : Nat)
    (hx : ev l x = some vx) (hy : ev l y = some vy) (h : Sat w L) (hL : L[n]? = some (OwnS e sz vx vs)) (hs : Src c.P w sz vy m xs)
    {q : Nat} (hq : vs.length = q * sz) (hsz : Nat.blt 0 sz = true) (hb : (q + m) * by_ ≤ 140737488355328) (hm : q + m ≤ 9223372036854775807) (hd : Nat.blt d c.n = true)
    (k : ∀ v' w', Sat w' (L.set n (OwnS e sz v' (vs ++ xs))) → K ((d, v') :: l) w') : OpE c ds ⟨some d, .call ⟨.builtin .append, #[x, y], #[t, u]⟩, ty, pos, af, g⟩ l w K := by
  have hsz' : 0 < sz := by simpa using hsz
  obtain ⟨gp, hsub, ha, upd⟩ := h.upd n hL
  have hlen := hs.2.1
  have main : ∃ v' w', (Builtin.append_ #[t, u] ty #[vx, vy]).run c.P w = .ok v' w' ∧ io w' = io w ∧ Sat w' (L.set n (OwnS e sz v' (vs ++ xs))) := by
    rcases ha with ⟨a, rfl, rfl⟩ | ⟨b, len, cap, C, fr, rfl, hbk, hl, hC, hlc, hcm, hk, hf⟩
    · have hq0 : q = 0 := by
        have : q * sz = 0 := by simpa using hq.symm
        rcases Nat.mul_eq_zero.1 this with h | h
        · exact h
        · omega
      subst hq0
      by_cases hm0 : m = 0
      · subst hm0
        have : xs = [] := List.eq_nil_of_length_eq_zero (by simpa using hlen)
        subst this
        refine ⟨.slice a 0 0, w, run_app_fit ht hu he hs (by omega) (by cases a <;> rfl), rfl, ?_⟩
        exact upd _ (fun _ => none) w (.inl ⟨a, rfl, rfl⟩) (fun _ _ e => by cases e) (fun _ => .inl rfl) (fun _ _ _ e => e)
      · obtain ⟨cap, w', hr, h1, h2, hh, hio⟩ := run_app_grow (ty := ty) (sLen := 0) (base := a) (vs := []) ht hu he hs (fun w' _ => by
          cases a with
          | none => rfl
          | some a => have := run_firstCells_some (P := c.P) w' sz 0 a 0 0 [] (by simp) (by simp); simpa using this) (sCap := 0) (by omega) (by simpa using hb) (by omega)
        refine ⟨_, w', hr, hio, ?_⟩
        have hcs : (([] ++ xs).toArray ++ Builtin.zeroCells z.cells (cap - (0 + m))).size = cap * sz := by
          simp only [Array.size_append, List.size_toArray, size_zeroCells, hz, List.nil_append, hlen, ← Nat.add_mul]
          congr 1
          omega
        refine upd _ (fun i => if i = w.heap.size then some (.cells (([] ++ xs).toArray ++ Builtin.zeroCells z.cells (cap - (0 + m))) e) else none) w'
          (.inr ⟨w.heap.size, 0 + m, cap, _, (0, 0), rfl, by simp, by simpa using hlen, hcs, h1, h2, fun i hi => ?_, .inl (Nat.le_refl _)⟩) (fun i o ho => ?_) (fun i => ?_) (fun i o _ ho => ?_)
        · rw [Nat.zero_add, ← hlen] at hi
          rw [Array.getElem?_append_left (by simpa using hi)]
          simp
        · by_cases hi : i = w.heap.size
          · subst hi; simp at ho; subst ho; simp [hof, hh]
          · simp [hi] at ho
        · by_cases hi : i = w.heap.size
          · subst hi; exact .inr (.inr (by simp))
          · exact .inl (by simp [hi])
        · have hlt : i < w.heap.size := (Array.getElem?_eq_some_iff.1 ho).1
          rw [hh, Array.getElem?_push_lt hlt]
          simpa [Array.getElem?_eq_getElem hlt] using ho
    · have hql : q = len := Nat.eq_of_mul_eq_mul_right hsz' (hq.symm.trans hl)
      subst hql
      have hwb : w.heap[b]? = some (.cells C e fr) := hsub b _ hbk
      by_cases hfit : q + m ≤ cap
      · have hle : q * sz + xs.length ≤ C.size := by rw [hlen, hC, ← Nat.add_mul]; exact Nat.mul_le_mul_right _ hfit
        obtain ⟨w', hr, hw1, hw2, hio⟩ := run_stores (P := c.P) b (q * sz) e fr xs 0 C w hwb (by simpa using hle) (by
          simp only [fok, Bool.or_eq_true, Nat.ble_eq, Nat.add_zero]
          rcases hf with hf | hf
          · exact .inl (.inl (.inl hf))
          · exact .inl (.inl (.inr (by omega)))) (fun v hv => List.all_eq_true.1 hs.2.2 v hv)
        refine ⟨_, w', run_app_fit ht hu he hs hfit (by simpa [addr_add] using hr), hio, ?_⟩
        refine upd _ (fun i => if i = b then some (.cells (spl C (q * sz) xs) e fr) else none) w'
          (.inr ⟨b, q + m, cap, spl C (q * sz) xs, fr, rfl, by simp, by rw [List.length_append, hl, hlen, Nat.add_mul], by rw [spl_size]; exact hC, hfit, hcm, fun i hi => ?_, by rw [spl_size]; exact hf⟩) (fun i o ho => ?_) (fun i => ?_) (fun i o hgi ho => ?_)
        · rw [spl_get _ _ _ _ hle]
          rw [Nat.add_mul, ← hlen] at hi
          by_cases hi2 : q * sz ≤ i
          · rw [if_pos ⟨hi2, hi⟩, List.getElem?_append_right (by omega), hl]
          · rw [if_neg (by omega), hk i (by omega), List.getElem?_append_left (by omega)]
        · by_cases hi : i = b
          · subst hi; simp at ho; subst ho; simpa [hof] using hw1
          · simp [hi] at ho
        · by_cases hi : i = b
          · subst hi; exact .inr (.inl (by rw [hbk]; simp))
          · exact .inl (by simp [hi])
        · have hib : i ≠ b := by rintro rfl; rw [hbk] at hgi; cases hgi
          rw [hw2 i hib]; exact ho
      · obtain ⟨cap', w', hr, h1, h2, hh, hio⟩ := run_app_grow (ty := ty) (vs := vs) (base := some ⟨b, 0, none⟩) (sLen := q) (sCap := cap) ht hu he hs (fun w' hw' =>
          run_firstCells_some (P := c.P) w' sz q ⟨b, 0, none⟩ q cap vs hl (fun j v hv => by
            rw [addr_add, cell_at (by rw [hw']; exact hwb)]
            have hj : j < q * sz := by rw [← hl]; exact (List.getElem?_eq_some_iff.1 hv).1
            rw [Nat.zero_add, hk j hj, hv])) (by omega) hb hm
        refine ⟨_, w', hr, hio, ?_⟩
        have hcs : ((vs ++ xs).toArray ++ Builtin.zeroCells z.cells (cap' - (q + m))).size = cap' * sz := by
          simp only [Array.size_append, List.size_toArray, size_zeroCells, hz, List.length_append, hlen, hl, ← Nat.add_mul]
          congr 1
          omega
        refine upd _ (fun i => if i = w.heap.size then some (.cells ((vs ++ xs).toArray ++ Builtin.zeroCells z.cells (cap' - (q + m))) e) else none) w'
          (.inr ⟨w.heap.size, q + m, cap', _, (0, 0), rfl, by simp, by rw [List.length_append, hl, hlen, Nat.add_mul], hcs, h1, h2, fun i hi => ?_, .inl (Nat.le_refl _)⟩) (fun i o ho => ?_) (fun i => ?_) (fun i o hgi ho => ?_)
        · rw [Array.getElem?_append_left (by simp only [List.size_toArray, List.length_append, hl, hlen, ← Nat.add_mul]; exact hi)]
          simp
        · by_cases hi : i = w.heap.size
          · subst hi; simp at ho; subst ho; simp [hof, hh]
          · simp [hi] at ho
        · by_cases hi : i = w.heap.size
          · subst hi; exact .inr (.inr (by simp))
          · exact .inl (by simp [hi])
        · have hlt : i < w.heap.size := (Array.getElem?_eq_some_iff.1 ho).1
          rw [hh, Array.getElem?_push_lt hlt]
          simpa [Array.getElem?_eq_getElem hlt] using ho
  obtain ⟨v', w', hr, hio, hsat⟩ := main
  refine OpE.value (v := v') (w' := w') (hio := hio) rfl hd (fun ρ hρ => ?_) (k v' w' hsat)
  rw [Oper.semAt_eq _ _ _ (by intro c; simp)]
  simp [execOp, resolve, invoke, builtin, hρ _ _ hx, hρ _ _ hy, hr]
end
end Go.Proofs.Slx
