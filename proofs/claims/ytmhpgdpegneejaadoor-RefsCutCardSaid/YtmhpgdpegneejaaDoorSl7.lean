import Derived.Test.YtmhpgdpegneejaaDoorSl6
set_option linter.unusedVariables false
set_option linter.unusedSimpArgs false
namespace Go.Proofs.Slx
open Go

/-! ### 20. Structs, rows, slices made -/
section
variable {P : Program}
/-- A struct's places and its zero. -/
def strT (P : Program) (t : Nat) : Option (Array (Nat × Nat) × Value) :=
  match P.underlying t, P.info? t with
  | some (.struct fs), some i =>
    match fs.toList.mapM (fun f : Field => (P.info? f.type).map fun i => (f.offset, i.size)), i.zero with
    | some l, some z => some (l.toArray, z)
    | _, _ => none
  | _, _ => none
theorem sizeOf_run {u : TypeId} {i : TypeInfo} (h : P.info? u = some i) (w : World) : (sizeOf u).run P w = .ok i.size w := by
  simp [sizeOf, typeInfo, program, Sem.run, h]
theorem places_run : ∀ {fs : List Field} {pl : List (Nat × Nat)}, fs.mapM (fun f : Field => (P.info? f.type).map fun i => (f.offset, i.size)) = some pl → ∀ w, (fs.mapM (m := Sem) fun (f : Field) => Prod.mk f.offset <$> sizeOf f.type).run P w = .ok pl w
  | [], pl, h, w => by simp at h; subst h; simp
  | f :: fs, pl, h, w => by
    simp only [List.mapM_cons, Option.bind_eq_bind, Option.bind_eq_some_iff, Option.map_eq_some_iff] at h
    obtain ⟨p, ⟨i, hi, rfl⟩, r, hr, h⟩ := h
    have h : (f.offset, i.size) :: r = pl := by simpa using h
    subst h
    have := places_run hr
    simp [sizeOf_run hi, this]
theorem strT_spec {t : Nat} {pl : Array (Nat × Nat)} {z : Value} (h : strT P t = some (pl, z)) (w : World) : ∃ fs, (underlying t).run P w = .ok (.struct fs) w ∧ (zeroValue t).run P w = .ok z w ∧ (fs.mapM (m := Sem) fun (f : Field) => Prod.mk f.offset <$> sizeOf f.type).run P w = .ok pl w := by
  unfold strT at h
  split at h
  · rename_i fs i hu hi
    split at h
    · rename_i l zz hm hz
      simp only [Option.some.injEq, Prod.mk.injEq] at h
      obtain ⟨rfl, rfl⟩ := h
      refine ⟨fs, und_run hu w, by simp [zeroValue, typeInfo, program, Sem.run, hi, hz], ?_⟩
      rw [Array.mapM_eq_mapM_toList]
      simp [places_run hm]
    · cases h
  · cases h
/-- A value laid together of parts. -/
def bldC (place : Nat → Option (Nat × Nat)) (cells : Array Value) : List (Nat × Value) → Option (Array Value)
  | [] => some cells
  | (i, v) :: r =>
    match place i with
    | none => none
    | some (off, size) => if v.cells.size ≠ size || off + v.cells.size > cells.size then none else bldC place (spl cells off v.cells.toList) r
theorem foldl_zipIdx (off : Nat) : ∀ (vs : List Value) (j : Nat) (cs : Array Value), (vs.zipIdx j).foldl (fun cs p => cs.setIfInBounds (off + p.2) p.1) cs = spl cs (off + j) vs
  | [], _, _ => rfl
  | v :: r, j, cs => by
    simp only [List.zipIdx_cons, List.foldl_cons, spl]
    rw [foldl_zipIdx off r (j + 1)]
    rfl
theorem fill_bldC (place : Nat → Option (Nat × Nat)) : ∀ (ps : List (Nat × Value)) (cells : Array Value), Instr.fill place cells ps = bldC place cells ps
  | [], _ => rfl
  | (i, v) :: r, cells => by
    simp only [Instr.fill, bldC]
    cases place i with
    | none => rfl
    | some p =>
      obtain ⟨off, size⟩ := p
      simp only []
      split
      · rfl
      · rw [← fill_bldC place r]
        congr 1
        rw [← Array.foldl_toList, Array.toList_zipIdx]
        exact foldl_zipIdx off v.cells.toList 0 cells
end
def zipP (ps : List (Nat × Operand)) (vs : List Value) : List (Nat × Value) := (ps.map (·.1)).zip vs
theorem zipP_map {l : Env} {ρ : Operand → Value} (hρ : ∀ x u, ev l x = some u → ρ x = u) : ∀ {ps : List (Nat × Operand)} {vs : List Value}, evs l (ps.map (·.2)) = some vs → ps.map (fun p => (p.1, ρ p.2)) = zipP ps vs
  | [], vs, h => by simp [zipP]
  | p :: r, vs, h => by
    simp only [List.map_cons, evs] at h
    split at h
    · rename_i v vs' h1 h2
      simp only [Option.some.injEq] at h
      subst h
      have := zipP_map hρ h2
      simp only [zipP] at this
      simp [zipP, hρ _ _ h1, this]
    · cases h
section
variable {P : Program} {l : Env} {dst : Option Nat} {ty : TypeId} {pos : String} {af : Array Edge} {g : Option (Nat × Bool)} {x y : Operand}
theorem rd_build {t : TypeId} {z1 : Value} {pl : Array (Nat × Nat)} (ht : strT P t = some (pl, z1)) {ps : List (Nat × Operand)} {vs : List Value} {cs : Array Value}
    (hv : evs l (ps.map (·.2)) = some vs) (hf : bldC (pl[·]?) z1.cells (zipP ps vs) = some cs) : Reads P ⟨dst, .build t ps.toArray, ty, pos, af, g⟩ l [] (.agg cs) := by
  intro ro w _ ρ hρ
  rw [Oper.semAt_eq _ _ _ (by intro c; simp)]
  have := zipP_map hρ hv
  obtain ⟨fs, h1, h2, h3⟩ := strT_spec ht w
  simp [execOp, Instr.build, h1, h2, h3, this, fill_bldC, hf]
theorem rd_buildA {t n e : TypeId} {s1 b1 : Nat} {z1 : Value} (ht : Ty P t (.array n e) s1 b1 z1) {s2 b2 : Nat} {z2 : Value} (he : Sz P e s2 b2 z2) {ps : List (Nat × Operand)} {vs : List Value} {cs : Array Value}
    (hv : evs l (ps.map (·.2)) = some vs) (hf : bldC (fun i => some (i * s2, s2)) z1.cells (zipP ps vs) = some cs) : Reads P ⟨dst, .build t ps.toArray, ty, pos, af, g⟩ l [] (.agg cs) := by
  intro ro w _ ρ hρ
  rw [Oper.semAt_eq _ _ _ (by intro c; simp)]
  have := zipP_map hρ hv
  simp [execOp, Instr.build, ht.sz.zer, ht.und, he.siz, this, fill_bldC, hf]
theorem run_equalIn_slice0 {t e : TypeId} {s1 b1 : Nat} {z1 : Value} (ht : Ty P t (.slice e) s1 b1 z1) (a : Option Addr) (n c : Nat) (w : World) (d : Nat) : (Op.equalIn (d + 1) t (.slice a n c) (.slice none 0 0)).run P w = .ok a.isNone w := by
  cases a <;> simp only [Op.equalIn, Sem.run_bind, ht.und, Result.andThen_ok, Sem.run_pure, Option.isNone]
theorem rd_eqlL0 {t u e : TypeId} {s1 b1 : Nat} {z1 : Value} (ht : Ty P t (.slice e) s1 b1 z1) {a : Option Addr} {n c : Nat} (hx : ev l x = some (.slice a n c)) (hy : ev l y = some (.slice none 0 0)) : Reads P ⟨dst, .binOp .eql t x y u, ty, pos, af, g⟩ l [] (.bool a.isNone) := by
  intro ro w _ ρ hρ
  rw [Oper.semAt_eq _ _ _ (by intro c; simp)]
  have := run_equalIn_slice0 (P := P) ht a n c w 9999
  cases a <;> simp [execOp, hρ _ _ hx, hρ _ _ hy, eqGuard, binOp, Op.equal, Op.maxDepth, this]
theorem rd_neqL0 {t u e : TypeId} {s1 b1 : Nat} {z1 : Value} (ht : Ty P t (.slice e) s1 b1 z1) {a : Option Addr} {n c : Nat} (hx : ev l x = some (.slice a n c)) (hy : ev l y = some (.slice none 0 0)) : Reads P ⟨dst, .binOp .neq t x y u, ty, pos, af, g⟩ l [] (.bool (!a.isNone)) := by
  intro ro w _ ρ hρ
  rw [Oper.semAt_eq _ _ _ (by intro c; simp)]
  have := run_equalIn_slice0 (P := P) ht a n c w 9999
  cases a <;> simp [execOp, hρ _ _ hx, hρ _ _ hy, eqGuard, binOp, Op.equal, Op.maxDepth, this]
end
section
variable {c : Place} {ds : List Deferred} {l : Env} {K : Env → World → Prop} {L : List Hp} {w : World} {pos : String} {af : Array Edge} {g : Option (Nat × Bool)} {x y : Operand} {d : Nat} {ty : TypeId}
/-- The cells of a row of zeros. -/
def zer (z : Value) (n : Nat) : Array Value := ((List.range n).map fun i => z.cells[i % z.cells.size]!).toArray
theorem zer_eq (z : Value) (n : Nat) : (Array.range n).map (z.cells[· % z.cells.size]!) = zer z n := by
  apply Array.ext'
  simp [zer]
theorem zer_size (z : Value) (n : Nat) : (zer z n).size = n := by simp [zer]
theorem ef_buildSlice {t e : TypeId} {s2 b2 : Nat} {z2 : Value} (ht : c.P.underlying t = some (.slice e)) (he : Sz c.P e s2 b2 z2) {len : Nat} {ps : List (Nat × Operand)} {vs : List Value} {cs : Array Value}
    (hv : evs l (ps.map (·.2)) = some vs) (hn : Nat.ble (len * s2) 16777216 = true) (hf : bldC (fun i => some (i * s2, s2)) (zer z2 (len * s2)) (zipP ps vs) = some cs) (h : Sat w L) (hd : Nat.blt d c.n = true)
    (k : ∀ b w', Sat w' (pt b (.cells cs e) :: L) → K ((d, .slice (some ⟨b, 0, none⟩) len len) :: l) w') : OpE c ds ⟨some d, .buildSlice t len ps.toArray, ty, pos, af, g⟩ l w K := by
  refine OpE.value (v := .slice (some ⟨w.heap.size, 0, none⟩) len len) (w' := { w with heap := w.heap.push (.cells cs e) }) rfl hd (fun ρ hρ => ?_) (k w.heap.size _ (h.new _ rfl))
  rw [Oper.semAt_eq _ _ _ (by intro c; simp)]
  have h1 := zipP_map hρ hv
  have h2 : ¬ (2 ^ 24 < len * s2) := by have := Nat.le_of_ble_eq_true hn; omega
  by_cases h0 : len * s2 = 0
  · have hr : Array.range 0 = #[] := rfl
    have hz : zer z2 0 = #[] := rfl
    rw [h0, hz] at hf
    simp [execOp, Instr.buildSlice, und_run ht, he.siz, h2, h0, h1, hr, fill_bldC, hf, newRow, newObj, Sem.run]
  · have h0' : len ≠ 0 ∧ s2 ≠ 0 := by constructor <;> (intro e; simp [e] at h0)
    rw [← zer_eq] at hf
    simp [execOp, Instr.buildSlice, und_run ht, he.siz, h2, h0', he.zer, h1, fill_bldC, hf, newRow, newObj, Sem.run]
    exact fun e => absurd e h0
theorem ef_makeSlice {t e : TypeId} {s2 b2 : Nat} {z2 : Value} (ht : c.P.underlying t = some (.slice e)) (he : Sz c.P e s2 b2 z2) {k1 k2 : IntKind} {n m : Int}
    (hx : ev l x = some (.int k1 n)) (hy : ev l y = some (.int k2 m)) (h0 : 0 ≤ n) (h1 : n ≤ m) (h2 : m ≤ 9223372036854775807) (h3 : b2 * m ≤ 281474976710656) (h : Sat w L) (hd : Nat.blt d c.n = true)
    (k : ∀ b w', Sat w' (pt b (.cells (zer z2 (m.toNat * s2)) e) :: L) → K ((d, .slice (some ⟨b, 0, none⟩) n.toNat m.toNat) :: l) w') : OpE c ds ⟨some d, .makeSlice t x y, ty, pos, af, g⟩ l w K := by
  obtain ⟨i, hi, hti, hsz, hby, hz⟩ := he.info w
  have hwr : ∀ a : Int, 0 ≤ a → a ≤ 9223372036854775807 → IntKind.i64.wrap a = a := fun a ha hb => wrap_id ⟨by omega, by omega⟩
  refine OpE.value (v := .slice (some ⟨w.heap.size, 0, none⟩) n.toNat m.toNat) (w' := { w with heap := w.heap.push (.cells (zer z2 (m.toNat * s2)) e) }) rfl hd (fun ρ hρ => ?_) (k w.heap.size _ (h.new _ rfl))
  rw [Oper.semAt_eq _ _ _ (by intro c; simp)]
  have e1 := hwr n h0 (by omega)
  have e2 := hwr m (by omega) h2
  have hc1 : ¬ m < 0 := by omega
  have hc2 : ¬ (281474976710656 < (b2 : Int) * m) := by omega
  have hc3 : ¬ n < 0 := by omega
  have hc4 : ¬ m < n := by omega
  have ha : ∀ q w', (askRoom q).run c.P w' = .ok () w' := fun q w' => by
    unfold askRoom
    split <;> simp [mark, Sem.run]
  by_cases hz0 : m.toNat * s2 = 0
  · have hr : Array.range 0 = #[] := rfl
    have hz : zer z2 0 = #[] := rfl
    rw [hz0, hz]
    simp [execOp, Instr.makeSlice, und_run ht, hρ _ _ hx, hρ _ _ hy, asInt, asIntOf, hti, hby, e1, e2, hc1, hc2, hc3, hc4, ha, he.siz, hz0, hr, newRow, newObj, Sem.run]
  · have hz' : m.toNat ≠ 0 ∧ s2 ≠ 0 := by constructor <;> (intro e; simp [e] at hz0)
    rw [← zer_eq]
    simp [execOp, Instr.makeSlice, und_run ht, hρ _ _ hx, hρ _ _ hy, asInt, asIntOf, hti, hby, e1, e2, hc1, hc2, hc3, hc4, ha, he.siz, hz0, hz', he.zer, newRow, newObj, Sem.run]
end
theorem bldC_size (place : Nat → Option (Nat × Nat)) : ∀ (ps : List (Nat × Value)) (cells cs : Array Value), bldC place cells ps = some cs → cs.size = cells.size
  | [], cells, cs, h => by simp only [bldC, Option.some.injEq] at h; rw [h]
  | (i, v) :: r, cells, cs, h => by
    simp only [bldC] at h
    split at h
    · cases h
    · split at h
      · cases h
      · rw [bldC_size place r _ _ h, spl_size]
/-- A row is the call's own. -/
theorem own_of_pt {b len cap sz : Nat} {cs : Array Value} {e : TypeId} (h1 : cs.size = cap * sz) (h2 : len ≤ cap) (h3 : cap ≤ 9223372036854775807) : ∀ h, pt b (.cells cs e) h → OwnS e sz (.slice (some ⟨b, 0, none⟩) len cap) (cs.toList.take (len * sz)) h :=
  fun h hb => .inr ⟨b, len, cap, cs, (0, 0), rfl, hb, by
    rw [List.length_take, Array.length_toList, h1, Nat.min_eq_left (Nat.mul_le_mul_right _ h2)], h1, h2, h3, fun i hi => by
    rw [List.getElem?_take]; simp [hi], .inl (Nat.le_refl _)⟩
/-- A row without elements. -/
theorem own_none {e sz : Nat} (a : Option Addr) : ∀ h, OwnS e sz (.slice a 0 0) [] h := ownS_nil e sz a
section
variable {c : Place} {ds : List Deferred} {l : Env} {K : Env → World → Prop} {L : List Hp} {w : World} {pos : String} {af : Array Edge} {g : Option (Nat × Bool)} {x y : Operand} {d : Nat} {ty : TypeId}
theorem ef_slice0 {t e : TypeId} {s2 b2 : Nat} {z2 : Value} (ht : c.P.underlying t = some (.slice e)) (he : Sz c.P e s2 b2 z2) (h : Sat w L) (hd : Nat.blt d c.n = true)
    (k : ∀ b w', Sat w' (OwnS e s2 (.slice (some ⟨b, 0, none⟩) 0 0) [] :: L) → K ((d, .slice (some ⟨b, 0, none⟩) 0 0) :: l) w') : OpE c ds ⟨some d, .buildSlice t 0 #[], ty, pos, af, g⟩ l w K :=
  ef_buildSlice (ps := []) (vs := []) ht he rfl (by rw [Nat.zero_mul]; rfl) rfl h hd fun b w' hs => k b w' (Sat.lone (ownS_nil _ _ _) hs.tail)
theorem ef_buildSliceO {t e : TypeId} {s2 b2 : Nat} {z2 : Value} (ht : c.P.underlying t = some (.slice e)) (he : Sz c.P e s2 b2 z2) {len : Nat} {ps : List (Nat × Operand)} {vs : List Value} {cs : Array Value}
    (hv : evs l (ps.map (·.2)) = some vs) (hn : Nat.ble (len * s2) 16777216 = true) (hs : Nat.blt 0 s2 = true) (hf : bldC (fun i => some (i * s2, s2)) (zer z2 (len * s2)) (zipP ps vs) = some cs) (h : Sat w L) (hd : Nat.blt d c.n = true)
    (k : ∀ b w', Sat w' (OwnS e s2 (.slice (some ⟨b, 0, none⟩) len len) cs.toList :: L) → K ((d, .slice (some ⟨b, 0, none⟩) len len) :: l) w') : OpE c ds ⟨some d, .buildSlice t len ps.toArray, ty, pos, af, g⟩ l w K :=
  ef_buildSlice ht he hv hn hf h hd fun b w' h' => k b w' (Sat.head h' fun g hg => by
    have e1 : cs.size = len * s2 := by rw [bldC_size _ _ _ _ hf, zer_size]
    have hs' : 0 < s2 := by simpa using hs
    have hl : len ≤ 16777216 := Nat.le_trans (Nat.le_mul_of_pos_right _ hs') (Nat.le_of_ble_eq_true hn)
    have := own_of_pt (len := len) (cap := len) e1 (Nat.le_refl _) (by omega) g hg
    rwa [List.take_of_length_le (by simp [e1])] at this)
theorem ef_makeSliceO {t e : TypeId} {s2 b2 : Nat} {z2 : Value} (ht : c.P.underlying t = some (.slice e)) (he : Sz c.P e s2 b2 z2) {k1 k2 : IntKind} {n m : Int}
    (hx : ev l x = some (.int k1 n)) (hy : ev l y = some (.int k2 m)) (h0 : 0 ≤ n) (h1 : n ≤ m) (h2 : m ≤ 9223372036854775807) (h3 : b2 * m ≤ 281474976710656) (h : Sat w L) (hd : Nat.blt d c.n = true)
    (k : ∀ b w', Sat w' (OwnS e s2 (.slice (some ⟨b, 0, none⟩) n.toNat m.toNat) ((zer z2 (m.toNat * s2)).toList.take (n.toNat * s2)) :: L) → K ((d, .slice (some ⟨b, 0, none⟩) n.toNat m.toNat) :: l) w') : OpE c ds ⟨some d, .makeSlice t x y, ty, pos, af, g⟩ l w K :=
  ef_makeSlice ht he hx hy h0 h1 h2 h3 h hd fun b w' h' => k b w' (Sat.head h' fun g hg => own_of_pt (zer_size _ _) (by omega) (by omega) g hg)
end
theorem Sat.rowPt {w : World} {L : List Hp} {b : Nat} {cs : Array Value} {E : TypeId} {fr : Nat × Nat} (n : Nat) (h : Sat w L) (hL : L[n]? = some (pt b (.cells cs E fr))) : RowW w (some ⟨b, 0, none⟩) cs.toList :=
  .inr ⟨b, 0, cs, E, fr, rfl, h.at_ n hL, fun i v hv => by simpa using hv⟩
end Go.Proofs.Slx
