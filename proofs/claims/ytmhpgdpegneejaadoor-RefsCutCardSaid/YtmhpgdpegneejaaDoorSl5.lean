import Derived.Test.YtmhpgdpegneejaaDoorSl4
set_option linter.unusedVariables false
namespace Go.Proofs.Slx
open Go

/-! ### 18. The steps as the walks take them -/
/-- The guard lets it through. -/
def gd (ops : Array Oper) (l : Env) : Option (Nat × Bool) → Prop
  | none => True
  | some g => gval ops l g = some true
theorem Holds.nil (w : World) : Holds [] w := trivial
theorem Holds.cons {w : World} {b : Nat} {o : Obj} {kl : List (Nat × Obj)} (h : w.heap[b]? = some o) (r : Holds kl w) : Holds ((b, o) :: kl) w := ⟨h, r⟩
theorem Holds.get : ∀ {kl : List (Nat × Obj)} {w : World} (i : Nat) {b : Nat} {o : Obj}, Holds kl w → kl[i]? = some (b, o) → w.heap[b]? = some o
  | [], _, i, _, _, _, e => by simp at e
  | (b, o) :: r, _, 0, _, _, h, e => by simp at e; obtain ⟨rfl, rfl⟩ := e; exact h.1
  | (b, o) :: r, _, i + 1, _, _, h, e => Holds.get i h.2 (by simpa using e)
theorem Holds.heap : ∀ {kl : List (Nat × Obj)} {w w' : World}, Holds kl w → w'.heap = w.heap → Holds kl w'
  | [], _, _, _, _ => trivial
  | (b, o) :: r, w, w', h, e => ⟨by rw [e]; exact h.1, h.2.heap e⟩
theorem Holds.ext : ∀ {kl : List (Nat × Obj)} {w w' : World}, Holds kl w → (∀ (i : Nat) (o : Obj), w.heap[i]? = some o → w'.heap[i]? = some o) → Holds kl w'
  | [], _, _, _, _ => trivial
  | (b, o) :: r, w, w', h, e => ⟨e _ _ h.1, h.2.ext e⟩
theorem sub_nil (l : Env) : sub [] l := trivial
theorem sub_cons {l l' : Env} {d : Nat} {v : Value} (h : look d l = some v) (r : sub l' l) : sub ((d, v) :: l') l := ⟨h, r⟩

theorem SatH.out : ∀ {L : List Hp} (n : Nat) {h : Part}, SatH L h → SatH (L.eraseIdx n) h
  | [], _, _, _ => trivial
  | _ :: _, 0, _, s => s.tail
  | _ :: L, n + 1, _, s => s.cons_mono (fun _ => SatH.out (L := L) n)
/-- Without the n-th part. -/
theorem Sat.out {w : World} {L : List Hp} (n : Nat) (h : Sat w L) : Sat w (L.eraseIdx n) := SatH.out n h
theorem MapIs.len {κ : Type} {enc : κ → Value} {es : Array MapEntry} {ck : Nat} {kvs : List (κ × Value)} (h : MapIs enc es.toList ck kvs) : es.size = kvs.length := by
  have := congrArg List.length h.ent
  simpa using this
theorem row_drop {g : Part} {a : Option Addr} {s : List UInt8} {cap : Nat} (n : Nat) (r : RowH g a (bcells s)) (hc : s.length ≤ cap) : RowH g (adv a (s.take n).length 1 cap) (bcells (s.drop n)) := by
  have := r.drop (s.take n).length 1 cap (by simp [bcells]; omega)
  have e : (bcells s).drop ((s.take n).length * 1) = bcells (s.drop n) := by
    simp only [bcells, List.map_drop, Nat.mul_one, List.length_take]
    by_cases h : n ≤ s.length
    · rw [Nat.min_eq_left h]
    · rw [List.drop_eq_nil_of_le (by simp; omega), List.drop_eq_nil_of_le (by simp; omega)]
  rwa [e] at this
theorem row_take {g : Part} {a : Option Addr} {s : List UInt8} (n : Nat) (r : RowH g a (bcells s)) : RowH g a (bcells (s.take n)) := by
  have := r.take n
  simpa [bcells, List.map_take] using this
theorem bcells_len (s : List UInt8) : (bcells s).length = s.length * 1 := by simp [bcells]
theorem bcells_append (s t : List UInt8) : bcells (s ++ t) = bcells s ++ bcells t := List.map_append
theorem bcells_take (s : List UInt8) (n : Nat) : bcells (s.take n) = (bcells s).take n := List.map_take
theorem bcells_drop (s : List UInt8) (n : Nat) : bcells (s.drop n) = (bcells s).drop n := List.map_drop
theorem Sat.lone {w : World} {L : List Hp} {A : Hp} (ha : ∀ h, A h) (h : Sat w L) : Sat w (A :: L) :=
  ⟨fun _ => none, hof w, fun _ => .inl rfl, (fun _ _ e => by cases e), hsub.refl _, ha _, h⟩
theorem Sat.rowOf {w : World} {L : List Hp} {B : Hp} {a : Option Addr} {vs : List Value} (n : Nat) (h : Sat w L) (hL : L[n]? = some B) (hB : ∀ g, B g → RowH g a vs) : RowW w a vs := by
  obtain ⟨g, s, x⟩ := SatH.get n h hL
  exact (hB g x).mono s
theorem Reads.to {P : Program} {o : Oper} {l : Env} {kl : List (Nat × Obj)} {v v' : Value} (h : Reads P o l kl v) (e : v = v') : Reads P o l kl v' := e ▸ h
theorem evs_all {l : Env} : ∀ {xs : List Operand} {vs : List Value}, evs l xs = some vs → xs.map (ev l) = vs.map some
  | [], vs, h => by simp [evs] at h; simp [h]
  | x :: r, vs, h => by
    simp only [evs] at h
    split at h
    · rename_i v vs' h1 h2
      simp only [Option.some.injEq] at h
      subst h
      simp [h1, evs_all h2]
    · cases h
theorem rd_funcL {P : Program} {l : Env} {dst : Option Nat} {ty : TypeId} {pos : String} {af : Array Edge} {g : Option (Nat × Bool)} {fn : Fn} {ca : List Operand} {cv : List Value} (hc : evs l ca = some cv) :
    Reads P ⟨dst, .makeFunc fn #[] ca.toArray, ty, pos, af, g⟩ l [] (.func fn #[] cv.toArray) :=
  rd_func (by simp) (by simpa using congrArg List.toArray (evs_all hc))
section
variable {c : Place} {ds : List Deferred} {k : List Item} {l : Env} {w : World} {ops : Array Oper} {rest : List Oper} {p : Op} {ty : TypeId} {pos : String} {af : Array Edge} {g : Option (Nat × Bool)} {x y z : Operand} {d : Nat} {L : List Hp}

theorem runO_g {o : Oper} (hg : gd ops l o.guard) (h : OpE c ds o l w fun l' w' => RunO c ds ops rest k l' w') : RunO c ds ops (o :: rest) k l w := by
  cases hgd : o.guard with
  | none => exact runO_op hgd h
  | some g => rw [hgd] at hg; exact runO_op_g hgd hg h
/-- reads nothing of the heap -/
theorem o_rd {v : Value} (h : Reads c.P ⟨some d, p, ty, pos, af, g⟩ l [] v) (hg : gd ops l g) (hn : Nat.blt d c.n = true) (r : RunO c ds ops rest k ((d, v) :: l) w) : RunO c ds ops (⟨some d, p, ty, pos, af, g⟩ :: rest) k l w :=
  runO_g hg (OpE.reads rfl hn h trivial r)
/-- a test: both ways -/
theorem o_test {b : Bool} (h : Reads c.P ⟨some d, p, ty, pos, af, g⟩ l [] (.bool b)) (hg : gd ops l g) (hn : Nat.blt d c.n = true) (rt : b = true → RunO c ds ops rest k ((d, .bool true) :: l) w) (rf : b = false → RunO c ds ops rest k ((d, .bool false) :: l) w) :
    RunO c ds ops (⟨some d, p, ty, pos, af, g⟩ :: rest) k l w :=
  runO_g hg (OpE.reads rfl hn h trivial (by cases b <;> first | exact rt rfl | exact rf rfl))
theorem o_ld {b o : Nat} {C : Array Value} {E : TypeId} {fr : Nat × Nat} {t : TypeId} {td : TypeDesc} {s1 b1 : Nat} {z1 v : Value} (hx : ev l x = some (.pointer (some ⟨b, o, none⟩))) (hk : w.heap[b]? = some (.cells C E fr)) (ht : Ty c.P t td s1 b1 z1) (hd : aggD td = false)
    (hv : C[o]? = some v) (hg : gd ops l g) (hn : Nat.blt d c.n = true) (r : RunO c ds ops rest k ((d, v) :: l) w) : RunO c ds ops (⟨some d, .load t x, ty, pos, af, g⟩ :: rest) k l w :=
  runO_g hg (OpE.reads rfl hn (rd_load ht hd hx hv) ⟨hk, trivial⟩ r)
theorem o_ldG {b o : Nat} {C : Array Value} {E : TypeId} {fr : Nat × Nat} {t : TypeId} {s1 b1 : Nat} {z1 : Value} {vs : List Value} (hx : ev l x = some (.pointer (some ⟨b, o, none⟩))) (hk : w.heap[b]? = some (.cells C E fr)) (ht : TyG c.P t s1 b1 z1)
    (hv : cutL C o s1 = some vs) (hg : gd ops l g) (hn : Nat.blt d c.n = true) (r : RunO c ds ops rest k ((d, .agg vs.toArray) :: l) w) : RunO c ds ops (⟨some d, .load t x, ty, pos, af, g⟩ :: rest) k l w :=
  runO_g hg (OpE.reads rfl hn (rd_loadG ht hx hv) ⟨hk, trivial⟩ r)
theorem o_lenM {b : Nat} {es : Array MapEntry} {ck : Nat} {t kt et : TypeId} {s1 b1 : Nat} {z1 : Value} (hx : ev l x = some (.map (some b))) (hk : w.heap[b]? = some (.map es ck)) (ht : Ty c.P t (.map kt et) s1 b1 z1)
    (hg : gd ops l g) (hn : Nat.blt d c.n = true) (r : RunO c ds ops rest k ((d, .int .i64 es.size) :: l) w) : RunO c ds ops (⟨some d, .call ⟨.builtin .len, #[x], #[t]⟩, ty, pos, af, g⟩ :: rest) k l w :=
  runO_g hg (OpE.reads rfl hn (rd_lenM ht hx) ⟨hk, trivial⟩ r)
/-- an operation that writes, makes, calls -/
theorem o_ef {o : Oper} (hg : gd ops l o.guard) (h : OpE c ds o l w fun l' w' => RunO c ds ops rest k l' w') : RunO c ds ops (o :: rest) k l w := runO_g hg h
/-- What a slot's bool is: both ways. -/
theorem o_know {b : Bool} (d : Nat) (hx : look d l = some (.bool b)) (rt : b = true → RunO c ds ops rest k ((d, .bool true) :: l) w) (rf : b = false → RunO c ds ops rest k ((d, .bool false) :: l) w) : RunO c ds ops rest k l w := by
  intro i hi hdr io0 bb a h1 h2 h3 hf
  have fits : Fits c.n ((d, .bool b) :: l) ds a := ⟨hf.size, fun e v he => by
    simp only [look] at he
    by_cases hed : e = d
    · subst hed
      have : Nat.beq e e = true := by simp
      rw [this] at he
      simp only [cond_true, Option.some.injEq] at he
      subst he
      exact hf.agree _ _ hx
    · have : Nat.beq e d = false := by rw [← Bool.not_eq_true]; simpa using hed
      rw [this] at he
      exact hf.agree _ _ he, hf.defers⟩
  cases b
  · exact rf rfl i hi hdr io0 bb a h1 h2 h3 fits
  · exact rt rfl i hi hdr io0 bb a h1 h2 h3 fits

theorem run_loadG {P : Program} {b o : Nat} {C : Array Value} {E : TypeId} {fr : Nat × Nat} {t : TypeId} {s1 b1 : Nat} {z1 : Value} {vs : List Value} (ht : TyG P t s1 b1 z1) (hk : w.heap[b]? = some (.cells C E fr)) (hv : cutL C o s1 = some vs) :
    (loadVar t ⟨b, o, none⟩).run P w = .ok (.agg vs.toArray) w := by
  obtain ⟨h1, h2⟩ := cutL_get hv
  have := run_loadCells_list (P := P) w ⟨b, o, none⟩ vs (fun j u hu => by rw [addr_add, cell_at hk]; exact h2 j u hu)
  rw [h1] at this
  simp [loadVar, ht.agg, ht.sz.siz, this]
theorem run_load1 {P : Program} {b o : Nat} {C : Array Value} {E : TypeId} {fr : Nat × Nat} {t : TypeId} {d : TypeDesc} {s1 b1 : Nat} {z1 v : Value} (ht : Ty P t d s1 b1 z1) (hd : aggD d = false) (hk : w.heap[b]? = some (.cells C E fr)) (hv : C[o]? = some v) :
    (loadVar t ⟨b, o, none⟩).run P w = .ok v w := by
  have hc := cell_at hk o
  rw [hv] at hc
  simp [loadVar, ht.agg, hd, load, Sem.run, hc]

theorem Sat.conv {A B : Hp} (n : Nat) (h : Sat w L) (e : L[n]? = some A) (f : ∀ h, A h → B h) : Sat w (L.set n B) := by
  obtain ⟨g, s, a, upd⟩ := h.upd n e
  exact upd B g w (f g a) s (fun i => by cases hg : g i <;> simp) (fun _ _ _ e => e)
theorem Sat.mapOpen {κ : Type} {enc : κ → Value} {b : Nat} {kvs : List (κ × Value)} (n : Nat) (h : Sat w L) (e : L[n]? = some (mapR enc b kvs)) : ∃ es ck, MapIs enc es.toList ck kvs ∧ Sat w (L.set n (pt b (.map es ck))) := by
  obtain ⟨g, s, ⟨es, ck, hb, hm⟩, upd⟩ := h.upd n e
  exact ⟨es, ck, hm, upd _ g w hb s (fun i => by cases hg : g i <;> simp) (fun _ _ _ e => e)⟩
theorem Sat.mapClose {κ : Type} {enc : κ → Value} {b : Nat} {kvs : List (κ × Value)} {es : Array MapEntry} {ck : Nat} (n : Nat) (h : Sat w L) (e : L[n]? = some (pt b (.map es ck))) (hm : MapIs enc es.toList ck kvs) : Sat w (L.set n (mapR enc b kvs)) :=
  h.conv n e fun _ hb => ⟨es, ck, hb, hm⟩
section look
variable {κ : Type} [DecidableEq κ] {enc : κ → Value}
theorem o_look2 {t kt et : TypeId} {s2 b2 : Nat} {z2 : Value} {b : Nat} {es : Array MapEntry} {ck : Nat} {kvs : List (κ × Value)} {q : κ} (hm : MapIs enc es.toList ck kvs) (hk : KeyT c.P kt κ enc) (ht : c.P.underlying t = some (.map kt et)) (he : Sz c.P et s2 b2 z2) (hx : ev l x = some (.map (some b))) (hw : w.heap[b]? = some (.map es ck)) (hy : ev l y = some (enc q))
    (hg : gd ops l g) (hn : Nat.blt d c.n = true) (r : RunO c ds ops rest k ((d, .tuple #[(kget kvs q).getD z2, .bool (kget kvs q).isSome]) :: l) w) : RunO c ds ops (⟨some d, .lookup t x y true, ty, pos, af, g⟩ :: rest) k l w :=
  runO_g hg (OpE.reads rfl hn (rd_lookup2 ht hk he hm hx hy) ⟨hw, trivial⟩ r)
theorem o_look1 {t kt et : TypeId} {s2 b2 : Nat} {z2 : Value} {b : Nat} {es : Array MapEntry} {ck : Nat} {kvs : List (κ × Value)} {q : κ} (hm : MapIs enc es.toList ck kvs) (hk : KeyT c.P kt κ enc) (ht : c.P.underlying t = some (.map kt et)) (he : Sz c.P et s2 b2 z2) (hx : ev l x = some (.map (some b))) (hw : w.heap[b]? = some (.map es ck)) (hy : ev l y = some (enc q))
    (hg : gd ops l g) (hn : Nat.blt d c.n = true) (r : RunO c ds ops rest k ((d, (kget kvs q).getD z2) :: l) w) : RunO c ds ops (⟨some d, .lookup t x y false, ty, pos, af, g⟩ :: rest) k l w :=
  runO_g hg (OpE.reads rfl hn (rd_lookup1 ht hk he hm hx hy) ⟨hw, trivial⟩ r)
end look

/-! regions that draw -/
theorem run_drawS {id : Nat} (last m : Nat) (pl : List (Nat × Bool)) (ol : List (Oper × Bool)) {kl : List (Nat × Obj)} (h : Sat w L) (hK : Holds kl w)
    (hmix : c.P.follows .mixedOrders = true) (hp : planAll ops last m pl = true) (hm : pl.map (fun p => (ops[p.1]?, p.2)) = ol.map (fun p => (some p.1, p.2)))
    (r : ∀ w', Sat w' L → Holds kl w' → RunD c ds ops kl ol k l w') : Run c ds (.code (.region id ops true) :: k) l w := by
  exact run_draw kl last m pl ol hmix hp hm (r _ (h.same fun i o e => e) (hK.heap rfl))
variable {rd : List (Oper × Bool)} {kl : List (Nat × Obj)}
theorem d_nil (r : Run c ds k l w) : RunD c ds ops kl [] k l w := r
theorem Reads.more {P : Program} {o : Oper} {kl' : List (Nat × Obj)} {v : Value} (h : Reads P o l kl' v) (hs : ∀ w, Holds kl w → Holds kl' w) : Reads P o l kl v :=
  fun ro w hw => h ro w (hs w hw)
theorem gd_or {o : Oper} (hg : gd ops l o.guard) : o.guard = none ∨ ∃ g, o.guard = some g ∧ gval ops l g = some true := by
  cases h : o.guard with
  | none => exact .inl rfl
  | some g => rw [h] at hg; exact .inr ⟨g, rfl, hg⟩
theorem d_rd {v : Value} (h : Reads c.P ⟨some d, p, ty, pos, af, g⟩ l [] v) (hK : Holds kl w) (hg : gd ops l g) (hn : Nat.blt d c.n = true) (r : RunD c ds ops kl rd k ((d, v) :: l) w) : RunD c ds ops kl ((⟨some d, p, ty, pos, af, g⟩, true) :: rd) k l w :=
  ⟨hK, .inl ⟨d, v, gd_or hg, rfl, hn, h.more fun _ _ => trivial, r⟩⟩
theorem d_ld {b o : Nat} {C : Array Value} {E : TypeId} {fr : Nat × Nat} {t : TypeId} {td : TypeDesc} {s1 b1 : Nat} {z1 v : Value} (hx : ev l x = some (.pointer (some ⟨b, o, none⟩))) (i : Nat) (hk : kl[i]? = some (b, .cells C E fr)) (ht : Ty c.P t td s1 b1 z1) (hd : aggD td = false)
    (hv : C[o]? = some v) (hK : Holds kl w) (hg : gd ops l g) (hn : Nat.blt d c.n = true) (r : RunD c ds ops kl rd k ((d, v) :: l) w) : RunD c ds ops kl ((⟨some d, .load t x, ty, pos, af, g⟩, true) :: rd) k l w :=
  ⟨hK, .inl ⟨d, v, gd_or hg, rfl, hn, (rd_load ht hd hx hv).more fun _ hw => ⟨hw.get i hk, trivial⟩, r⟩⟩
theorem d_ldG {b o : Nat} {C : Array Value} {E : TypeId} {fr : Nat × Nat} {t : TypeId} {s1 b1 : Nat} {z1 : Value} {vs : List Value} (hx : ev l x = some (.pointer (some ⟨b, o, none⟩))) (i : Nat) (hk : kl[i]? = some (b, .cells C E fr)) (ht : TyG c.P t s1 b1 z1)
    (hv : cutL C o s1 = some vs) (hK : Holds kl w) (hg : gd ops l g) (hn : Nat.blt d c.n = true) (r : RunD c ds ops kl rd k ((d, .agg vs.toArray) :: l) w) : RunD c ds ops kl ((⟨some d, .load t x, ty, pos, af, g⟩, true) :: rd) k l w :=
  ⟨hK, .inl ⟨d, _, gd_or hg, rfl, hn, (rd_loadG ht hx hv).more fun _ hw => ⟨hw.get i hk, trivial⟩, r⟩⟩
theorem d_lenM {b : Nat} {es : Array MapEntry} {ck : Nat} {t kt et : TypeId} {s1 b1 : Nat} {z1 : Value} (hx : ev l x = some (.map (some b))) (i : Nat) (hk : kl[i]? = some (b, .map es ck)) (ht : Ty c.P t (.map kt et) s1 b1 z1)
    (hK : Holds kl w) (hg : gd ops l g) (hn : Nat.blt d c.n = true) (r : RunD c ds ops kl rd k ((d, .int .i64 es.size) :: l) w) : RunD c ds ops kl ((⟨some d, .call ⟨.builtin .len, #[x], #[t]⟩, ty, pos, af, g⟩, true) :: rd) k l w :=
  ⟨hK, .inl ⟨d, _, gd_or hg, rfl, hn, (rd_lenM ht hx).more fun _ hw => ⟨hw.get i hk, trivial⟩, r⟩⟩
section lookD
variable {κ : Type} [DecidableEq κ] {enc : κ → Value}
theorem d_look2 {t kt et : TypeId} {s2 b2 : Nat} {z2 : Value} {b : Nat} {es : Array MapEntry} {ck : Nat} {kvs : List (κ × Value)} {q : κ} (hm : MapIs enc es.toList ck kvs) (hk : KeyT c.P kt κ enc) (ht : c.P.underlying t = some (.map kt et)) (he : Sz c.P et s2 b2 z2) (hx : ev l x = some (.map (some b))) (i : Nat) (hw : kl[i]? = some (b, .map es ck)) (hy : ev l y = some (enc q))
    (hK : Holds kl w) (hg : gd ops l g) (hn : Nat.blt d c.n = true) (r : RunD c ds ops kl rd k ((d, .tuple #[(kget kvs q).getD z2, .bool (kget kvs q).isSome]) :: l) w) : RunD c ds ops kl ((⟨some d, .lookup t x y true, ty, pos, af, g⟩, true) :: rd) k l w :=
  ⟨hK, .inl ⟨d, _, gd_or hg, rfl, hn, (rd_lookup2 ht hk he hm hx hy).more fun _ hw' => ⟨hw'.get i hw, trivial⟩, r⟩⟩
theorem d_look1 {t kt et : TypeId} {s2 b2 : Nat} {z2 : Value} {b : Nat} {es : Array MapEntry} {ck : Nat} {kvs : List (κ × Value)} {q : κ} (hm : MapIs enc es.toList ck kvs) (hk : KeyT c.P kt κ enc) (ht : c.P.underlying t = some (.map kt et)) (he : Sz c.P et s2 b2 z2) (hx : ev l x = some (.map (some b))) (i : Nat) (hw : kl[i]? = some (b, .map es ck)) (hy : ev l y = some (enc q))
    (hK : Holds kl w) (hg : gd ops l g) (hn : Nat.blt d c.n = true) (r : RunD c ds ops kl rd k ((d, (kget kvs q).getD z2) :: l) w) : RunD c ds ops kl ((⟨some d, .lookup t x y false, ty, pos, af, g⟩, true) :: rd) k l w :=
  ⟨hK, .inl ⟨d, _, gd_or hg, rfl, hn, (rd_lookup1 ht hk he hm hx hy).more fun _ hw' => ⟨hw'.get i hw, trivial⟩, r⟩⟩
end lookD
/-- An operation passed over. -/
theorem d_pass {o : Oper} {gg : Nat × Bool} (hgd : o.guard = some gg) (hv : gval ops l gg = some false) (hd : o.dst = some d) (hK : Holds kl w) (hn : Nat.blt d c.n = true) (r : RunD c ds ops kl rd k ((d, undef) :: l) w) (t : Bool) : RunD c ds ops kl ((o, t) :: rd) k l w := by
  cases t
  · exact .inr ⟨gg, d, hgd, hv, hd, hn, fun _ => hK, r⟩
  · exact ⟨hK, .inr ⟨gg, d, hgd, hv, hd, hn, r⟩⟩
theorem o_pass {o : Oper} {gg : Nat × Bool} (hgd : o.guard = some gg) (hv : gval ops l gg = some false) (hd : o.dst = some d) (hn : Nat.blt d c.n = true) (r : RunO c ds ops rest k ((d, undef) :: l) w) : RunO c ds ops (o :: rest) k l w :=
  runO_pass hgd hv hd hn r
/-- In its turn: what writes, makes, calls, and the last one. -/
theorem d_ef {o : Oper} (hg : gd ops l o.guard) (h : OpE c ds o l w fun l' w' => (rd ≠ [] → Holds kl w') ∧ RunD c ds ops kl rd k l' w') : RunD c ds ops kl ((o, false) :: rd) k l w :=
  .inl ⟨gd_or hg, h⟩
/-- In its turn, though it reads nothing. -/
theorem d_rd0 {v : Value} (h : Reads c.P ⟨some d, p, ty, pos, af, g⟩ l [] v) (hK : Holds kl w) (hg : gd ops l g) (hn : Nat.blt d c.n = true) (r : RunD c ds ops kl rd k ((d, v) :: l) w) : RunD c ds ops kl ((⟨some d, p, ty, pos, af, g⟩, false) :: rd) k l w :=
  d_ef hg (OpE.reads rfl hn h trivial ⟨fun _ => hK, r⟩)
/-- A test in its turn. -/
theorem d_test0 {b : Bool} (h : Reads c.P ⟨some d, p, ty, pos, af, g⟩ l [] (.bool b)) (hK : Holds kl w) (hg : gd ops l g) (hn : Nat.blt d c.n = true) (rt : b = true → RunD c ds ops kl rd k ((d, .bool true) :: l) w) (rf : b = false → RunD c ds ops kl rd k ((d, .bool false) :: l) w) : RunD c ds ops kl ((⟨some d, p, ty, pos, af, g⟩, false) :: rd) k l w :=
  d_ef hg (OpE.reads rfl hn h trivial ⟨fun _ => hK, by cases b <;> first | exact rt rfl | exact rf rfl⟩)
theorem d_test {b : Bool} (h : Reads c.P ⟨some d, p, ty, pos, af, g⟩ l [] (.bool b)) (hK : Holds kl w) (hg : gd ops l g) (hn : Nat.blt d c.n = true) (rt : b = true → RunD c ds ops kl rd k ((d, .bool true) :: l) w) (rf : b = false → RunD c ds ops kl rd k ((d, .bool false) :: l) w) : RunD c ds ops kl ((⟨some d, p, ty, pos, af, g⟩, true) :: rd) k l w := by
  cases b
  · exact d_rd h hK hg hn (rf rfl)
  · exact d_rd h hK hg hn (rt rfl)
/-- What is left when n parts are done. -/
def after : Nat → List Item → List Item
  | 0, k => k
  | n + 1, .code (.seq _ b) :: k => after n (.code b :: k)
  | n + 1, _ :: k => after n k
  | _ + 1, [] => []
theorem run_cutA {σ : Type} {X : Item} (n : Nat) (E : σ → Env) (I : σ → World → Prop) (hK : ∀ g w, I g w → Run c ds (after n k) (E g) w) (f : (∀ g w, I g w → Run c ds (after n k) (E g) w) → Run c ds (X :: k) l w) : Run c ds (X :: k) l w := f hK
/-- What follows, shown once for all ways that lead to it. -/
theorem run_cut {σ : Type} {X : Item} (E : σ → Env) (I : σ → World → Prop) (hK : ∀ g w, I g w → Run c ds k (E g) w) (f : (∀ g w, I g w → Run c ds k (E g) w) → Run c ds (X :: k) l w) : Run c ds (X :: k) l w := f hK
/-! tests that are decisions -/
theorem o_tD {q : Prop} [Decidable q] (h : Reads c.P ⟨some d, p, ty, pos, af, g⟩ l [] (.bool (decide q))) (hg : gd ops l g) (hn : Nat.blt d c.n = true) (rt : q → RunO c ds ops rest k ((d, .bool true) :: l) w) (rf : ¬q → RunO c ds ops rest k ((d, .bool false) :: l) w) :
    RunO c ds ops (⟨some d, p, ty, pos, af, g⟩ :: rest) k l w := o_test h hg hn (fun e => rt (by simpa using e)) (fun e => rf (by simpa using e))
theorem o_tN {q : Prop} [Decidable q] (h : Reads c.P ⟨some d, p, ty, pos, af, g⟩ l [] (.bool (!decide q))) (hg : gd ops l g) (hn : Nat.blt d c.n = true) (rt : ¬q → RunO c ds ops rest k ((d, .bool true) :: l) w) (rf : q → RunO c ds ops rest k ((d, .bool false) :: l) w) :
    RunO c ds ops (⟨some d, p, ty, pos, af, g⟩ :: rest) k l w := o_test h hg hn (fun e => rt (by simpa using e)) (fun e => rf (by simpa using e))
theorem d_tD {q : Prop} [Decidable q] (h : Reads c.P ⟨some d, p, ty, pos, af, g⟩ l [] (.bool (decide q))) (hK : Holds kl w) (hg : gd ops l g) (hn : Nat.blt d c.n = true) (rt : q → RunD c ds ops kl rd k ((d, .bool true) :: l) w) (rf : ¬q → RunD c ds ops kl rd k ((d, .bool false) :: l) w) :
    RunD c ds ops kl ((⟨some d, p, ty, pos, af, g⟩, true) :: rd) k l w := d_test h hK hg hn (fun e => rt (by simpa using e)) (fun e => rf (by simpa using e))
theorem d_tN {q : Prop} [Decidable q] (h : Reads c.P ⟨some d, p, ty, pos, af, g⟩ l [] (.bool (!decide q))) (hK : Holds kl w) (hg : gd ops l g) (hn : Nat.blt d c.n = true) (rt : ¬q → RunD c ds ops kl rd k ((d, .bool true) :: l) w) (rf : q → RunD c ds ops kl rd k ((d, .bool false) :: l) w) :
    RunD c ds ops kl ((⟨some d, p, ty, pos, af, g⟩, true) :: rd) k l w := d_test h hK hg hn (fun e => rt (by simpa using e)) (fun e => rf (by simpa using e))
theorem d_tD0 {q : Prop} [Decidable q] (h : Reads c.P ⟨some d, p, ty, pos, af, g⟩ l [] (.bool (decide q))) (hK : Holds kl w) (hg : gd ops l g) (hn : Nat.blt d c.n = true) (rt : q → RunD c ds ops kl rd k ((d, .bool true) :: l) w) (rf : ¬q → RunD c ds ops kl rd k ((d, .bool false) :: l) w) :
    RunD c ds ops kl ((⟨some d, p, ty, pos, af, g⟩, false) :: rd) k l w := d_test0 h hK hg hn (fun e => rt (by simpa using e)) (fun e => rf (by simpa using e))
theorem d_tN0 {q : Prop} [Decidable q] (h : Reads c.P ⟨some d, p, ty, pos, af, g⟩ l [] (.bool (!decide q))) (hK : Holds kl w) (hg : gd ops l g) (hn : Nat.blt d c.n = true) (rt : ¬q → RunD c ds ops kl rd k ((d, .bool true) :: l) w) (rf : q → RunD c ds ops kl rd k ((d, .bool false) :: l) w) :
    RunD c ds ops kl ((⟨some d, p, ty, pos, af, g⟩, false) :: rd) k l w := d_test0 h hK hg hn (fun e => rt (by simpa using e)) (fun e => rf (by simpa using e))
/-- What a slot's bool is, in a region that draws. -/
theorem d_know {b : Bool} (d : Nat) (hb : b = true ∨ b = false) (rt : b = true → RunD c ds ops kl rd k l w) (rf : b = false → RunD c ds ops kl rd k l w) : RunD c ds ops kl rd k l w :=
  hb.elim rt rf
end
end Go.Proofs.Slx
