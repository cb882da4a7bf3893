import Derived.Test.YtmhpgdpegneejaaDoorSl3
set_option linter.unusedVariables false
set_option linter.unusedSimpArgs false
namespace Go.Proofs.Slx
open Go

/-! ### 17. Maps -/
section pure
variable {κ : Type} [DecidableEq κ] {α : Type}
def kget : List (κ × α) → κ → Option α
  | [], _ => none
  | (k', v) :: r, k => if k' = k then some v else kget r k
def kset : List (κ × α) → κ → α → List (κ × α)
  | [], k, v => [(k, v)]
  | (k', v') :: r, k, v => if k' = k then (k, v) :: r else (k', v') :: kset r k v
def kdel : List (κ × α) → κ → List (κ × α)
  | [], _ => []
  | (k', v') :: r, k => if k' = k then r else (k', v') :: kdel r k
def keys (l : List (κ × α)) : List κ := l.map (·.1)
theorem kget_none {l : List (κ × α)} {k : κ} : kget l k = none ↔ k ∉ keys l := by
  induction l with
  | nil => simp [kget, keys]
  | cons p r ih =>
    obtain ⟨k', v⟩ := p
    simp only [kget, keys, List.map_cons, List.mem_cons, not_or]
    by_cases h : k' = k
    · simp [h]
    · simp only [h, if_false, ih]
      exact ⟨fun x => ⟨fun e => h e.symm, x⟩, fun x => x.2⟩
theorem keys_kset (l : List (κ × α)) (k : κ) (v : α) : keys (kset l k v) = if k ∈ keys l then keys l else keys l ++ [k] := by
  induction l with
  | nil => simp [kset, keys]
  | cons p r ih =>
    obtain ⟨k', v'⟩ := p
    simp only [kset]
    by_cases h : k' = k
    · subst h; simp [keys]
    · simp only [h, if_false]
      simp only [keys, List.map_cons, List.mem_cons] at ih ⊢
      rw [ih]
      by_cases h2 : k ∈ List.map (·.1) r
      · simp [h2]
      · have : ¬ k = k' := fun e => h e.symm
        simp [h2, this]
theorem nodup_kset {l : List (κ × α)} (h : (keys l).Nodup) (k : κ) (v : α) : (keys (kset l k v)).Nodup := by
  rw [keys_kset]
  split
  · exact h
  · rename_i hk
    rw [List.nodup_append]
    exact ⟨h, by simp, fun a ha b hb => by simp at hb; subst hb; rintro rfl; exact hk ha⟩
theorem keys_kdel_sub (l : List (κ × α)) (k : κ) : ∀ x, x ∈ keys (kdel l k) → x ∈ keys l := by
  induction l with
  | nil => simp [kdel]
  | cons p r ih =>
    obtain ⟨k', v'⟩ := p
    intro x hx
    simp only [kdel] at hx
    split at hx
    · simp only [keys, List.map_cons, List.mem_cons]; exact .inr hx
    · simp only [keys, List.map_cons, List.mem_cons] at hx ⊢
      rcases hx with hx | hx
      · exact .inl hx
      · exact .inr (ih x hx)
theorem nodup_kdel {l : List (κ × α)} (h : (keys l).Nodup) (k : κ) : (keys (kdel l k)).Nodup := by
  induction l with
  | nil => simpa [kdel] using h
  | cons p r ih =>
    obtain ⟨k', v'⟩ := p
    simp only [keys, List.map_cons, List.nodup_cons] at h
    simp only [kdel]
    split
    · exact h.2
    · simp only [keys, List.map_cons, List.nodup_cons]
      exact ⟨fun hx => h.1 (keys_kdel_sub r k _ hx), ih h.2⟩
theorem kget_kset (l : List (κ × α)) (k : κ) (v : α) (j : κ) : kget (kset l k v) j = if k = j then some v else kget l j := by
  induction l with
  | nil => simp [kset, kget]
  | cons p r ih =>
    obtain ⟨k', v'⟩ := p
    simp only [kset]
    by_cases h : k' = k
    · subst h
      simp only [if_true, kget]
      split <;> rfl
    · simp only [h, if_false, kget, ih]
      by_cases h1 : k' = j
      · have : ¬ k = j := fun e => h (h1.trans e.symm)
        simp [h1, this]
      · simp [h1]
theorem kget_kdel {l : List (κ × α)} (hn : (keys l).Nodup) (k j : κ) : kget (kdel l k) j = if k = j then none else kget l j := by
  induction l with
  | nil => simp [kdel, kget]
  | cons p r ih =>
    obtain ⟨k', v'⟩ := p
    simp only [keys, List.map_cons, List.nodup_cons] at hn
    simp only [kdel]
    by_cases h : k' = k
    · subst h
      simp only [if_true, kget]
      by_cases h1 : k' = j
      · subst h1; simp only [if_true]; exact kget_none.2 hn.1
      · simp [h1]
    · simp only [h, if_false, kget, ih hn.2]
      by_cases h1 : k' = j
      · have : ¬ k = j := fun e => h (h1.trans e.symm)
        simp [h1, this]
      · simp [h1]
theorem length_kset (l : List (κ × α)) (k : κ) (v : α) : (kset l k v).length = if k ∈ keys l then l.length else l.length + 1 := by
  have := congrArg List.length (keys_kset l k v)
  rw [show (kset l k v).length = (keys (kset l k v)).length by simp [keys], this]
  split <;> simp [keys]
theorem kdel_none {l : List (κ × α)} {k : κ} (h : k ∉ keys l) : kdel l k = l := by
  induction l with
  | nil => rfl
  | cons p r ih =>
    obtain ⟨k', v'⟩ := p
    simp only [keys, List.map_cons, List.mem_cons, not_or] at h
    simp only [kdel]
    rw [if_neg (fun e => h.1 e.symm), ih h.2]
end pure

/-- A key's type, its keys as κ. -/
structure KeyT (P : Program) (kt : Nat) (κ : Type) [DecidableEq κ] (enc : κ → Value) : Prop where
  desc : ∃ d, P.underlying kt = some d ∧ (∀ a b, Instr.sameNow d (enc a) (enc b) = some (decide (a = b))) ∧ ∀ (em : Bool) (n : Nat) (a : κ) (w : World), (Instr.checkKey em (n + 1) kt (enc a)).run P w = .ok () w
  bits : ∀ a, Instr.sameBits 10000 (enc a) (enc a) = true

def strK (s : ByteArray) : Value := .string s
def intK (k : IntKind) (n : Int) : Value := .int k n
theorem byteArray_beq (a b : ByteArray) : (a == b) = decide (a = b) := by
  show (a.data == b.data) = _
  by_cases h : a = b
  · subst h; simp
  · rw [decide_eq_false h, beq_eq_false_iff_ne]
    exact fun e => h (by cases a; cases b; simp only [ByteArray.mk.injEq]; exact e)
theorem eraseIdx_map' {α β : Type} (f : α → β) : ∀ (l : List α) (i : Nat), (l.eraseIdx i).map f = (l.map f).eraseIdx i
  | [], _ => rfl
  | _ :: _, 0 => rfl
  | _ :: l, i + 1 => by simp [eraseIdx_map' f l i]
theorem keyT_string {P : Program} {kt : Nat} (h : P.underlying kt = some .string) : KeyT P kt ByteArray strK :=
  ⟨⟨.string, h, fun a b => by simp [Instr.sameNow, strK, byteArray_beq], fun em n a w => by simp [Instr.checkKey, und_run h, strK]⟩, fun a => by simp [Instr.sameBits, strK, byteArray_beq]⟩
theorem keyT_int {P : Program} {kt : Nat} {k : IntKind} (h : P.underlying kt = some (.int k)) : KeyT P kt Int (intK k) :=
  ⟨⟨.int k, h, fun a b => by simp [Instr.sameNow, intK]; rfl, fun em n a w => by simp [Instr.checkKey, und_run h, intK]⟩, fun a => by simp [Instr.sameBits, intK]⟩

section
variable {κ : Type} [DecidableEq κ] {enc : κ → Value}
/-- The entries are these, in this order; no two bear one stamp. -/
structure MapIs (enc : κ → Value) (es : List MapEntry) (ck : Nat) (kvs : List (κ × Value)) : Prop where
  ent : es.map (fun e => (e.key, e.val)) = kvs.map fun p => (enc p.1, p.2)
  born : es.Pairwise fun a b => a.born < b.born
  clock : ∀ e ∈ es, e.born < ck
def mapR (enc : κ → Value) (b : Nat) (kvs : List (κ × Value)) : Hp := fun h => ∃ es ck, h b = some (.map es ck) ∧ MapIs enc es.toList ck kvs

theorem findNow_spec {d : TypeDesc} (hd : ∀ a b, Instr.sameNow d (enc a) (enc b) = some (decide (a = b))) (k : κ) : ∀ (es : List MapEntry) (kvs : List (κ × Value)) (i : Nat), es.map (fun e => (e.key, e.val)) = kvs.map (fun p => (enc p.1, p.2)) →
    (kget kvs k = none ∧ Instr.findNow d (enc k) es i = some none) ∨
    (∃ v j, kget kvs k = some v ∧ j < es.length ∧ Instr.findNow d (enc k) es i = some (some (i + j, v)) ∧ (∃ e, es[j]? = some e ∧ e.key = enc k) ∧ (∀ u, kset kvs k u = kvs.set j (k, u)) ∧ kdel kvs k = kvs.eraseIdx j)
  | [], kvs, i, h => by
    have : kvs = [] := by simpa using h.symm
    subst this
    exact .inl ⟨rfl, rfl⟩
  | e :: es, [], i, h => by simp at h
  | e :: es, (k', v') :: kvs, i, h => by
    simp only [List.map_cons, List.cons.injEq, Prod.mk.injEq] at h
    obtain ⟨⟨h1, h2⟩, h3⟩ := h
    by_cases hk : k' = k
    · subst hk
      refine .inr ⟨v', 0, by simp [kget], by simp, ?_, ⟨e, rfl, h1⟩, fun u => by simp [kset], by simp [kdel]⟩
      simp [Instr.findNow, h1, hd, h2]
    · have hk' : ¬ k = k' := fun x => hk x.symm
      rcases findNow_spec hd k es kvs (i + 1) h3 with ⟨a1, a2⟩ | ⟨v, j, a1, a2, a3, a4, a5, a6⟩
      · exact .inl ⟨by simp [kget, hk, a1], by simp [Instr.findNow, h1, hd, hk', a2]⟩
      · refine .inr ⟨v, j + 1, by simp [kget, hk, a1], by simpa using a2, ?_, by simpa using a4, fun u => by simp [kset, hk, a5 u], by simp [kdel, hk, a6]⟩
        simp only [Instr.findNow, h1, hd, hk', decide_false, a3]
        rw [show i + 1 + j = i + (j + 1) by omega]

theorem run_findKey {P : Program} {kt : Nat} (hk : KeyT P kt κ enc) (k : κ) {es : List MapEntry} {kvs : List (κ × Value)} (h : es.map (fun e => (e.key, e.val)) = kvs.map fun p => (enc p.1, p.2)) (w : World) :
    (kget kvs k = none ∧ (Instr.findKey kt (enc k) es).run P w = .ok none w) ∨
    (∃ v j, kget kvs k = some v ∧ j < es.length ∧ (Instr.findKey kt (enc k) es).run P w = .ok (some (j, v)) w ∧ (∃ e, es[j]? = some e ∧ e.key = enc k) ∧ (∀ u, kset kvs k u = kvs.set j (k, u)) ∧ kdel kvs k = kvs.eraseIdx j) := by
  obtain ⟨d, hu, hd, hc⟩ := hk.desc
  rcases findNow_spec hd k es kvs 0 h with ⟨a1, a2⟩ | ⟨v, j, a1, a2, a3, a4⟩
  · exact .inl ⟨a1, by simp [Instr.findKey, und_run hu, a2]⟩
  · rw [Nat.zero_add] at a3
    exact .inr ⟨v, j, a1, a2, by simp [Instr.findKey, und_run hu, a3], a4⟩

section ops
variable {P : Program} {l : Env} {dst : Option Tmp} {ty : TypeId} {pos : String} {af : Array Edge} {g : Option (Nat × Bool)} {x y z : Operand}
/-- m[k], where it is there or not. -/
theorem rd_lookup2 {t kt et : TypeId} (ht : P.underlying t = some (.map kt et)) (hk : KeyT P kt κ enc) {s2 b2 : Nat} {z2 : Value} (he : Sz P et s2 b2 z2) {b : Nat} {es : Array MapEntry} {ck : Nat} {kvs : List (κ × Value)} {k : κ}
    (hm : MapIs enc es.toList ck kvs) (hx : ev l x = some (.map (some b))) (hy : ev l y = some (enc k)) : Reads P ⟨dst, .lookup t x y true, ty, pos, af, g⟩ l [(b, .map es ck)] (.tuple #[(kget kvs k).getD z2, .bool (kget kvs k).isSome]) := by
  intro ro w hw ρ hρ
  rw [Oper.semAt_eq _ _ _ (by intro c; simp)]
  obtain ⟨d, hu, hd, hc⟩ := hk.desc
  have hc' : ∀ em, (Instr.checkKey em 10000 kt (enc k)).run P w = .ok () w := fun em => hc em 9999 k w
  have hw1 := hw.1
  rcases run_findKey hk k hm.ent w with ⟨a1, a2⟩ | ⟨v, j, a1, a2, a3, a4⟩
  · simp [execOp, hρ _ _ hx, hρ _ _ hy, Instr.lookup, und_run ht, getObj, Sem.run, hw1, hc', a1, a2, he.zer]
  · simp [execOp, hρ _ _ hx, hρ _ _ hy, Instr.lookup, und_run ht, getObj, Sem.run, hw1, hc', a1, a3]
theorem rd_lookup1 {t kt et : TypeId} (ht : P.underlying t = some (.map kt et)) (hk : KeyT P kt κ enc) {s2 b2 : Nat} {z2 : Value} (he : Sz P et s2 b2 z2) {b : Nat} {es : Array MapEntry} {ck : Nat} {kvs : List (κ × Value)} {k : κ}
    (hm : MapIs enc es.toList ck kvs) (hx : ev l x = some (.map (some b))) (hy : ev l y = some (enc k)) : Reads P ⟨dst, .lookup t x y false, ty, pos, af, g⟩ l [(b, .map es ck)] ((kget kvs k).getD z2) := by
  intro ro w hw ρ hρ
  rw [Oper.semAt_eq _ _ _ (by intro c; simp)]
  obtain ⟨d, hu, hd, hc⟩ := hk.desc
  have hc' : ∀ em, (Instr.checkKey em 10000 kt (enc k)).run P w = .ok () w := fun em => hc em 9999 k w
  have hw1 := hw.1
  rcases run_findKey hk k hm.ent w with ⟨a1, a2⟩ | ⟨v, j, a1, a2, a3, a4⟩
  · simp [execOp, hρ _ _ hx, hρ _ _ hy, Instr.lookup, und_run ht, getObj, Sem.run, hw1, hc', a1, a2, he.zer]
  · simp [execOp, hρ _ _ hx, hρ _ _ hy, Instr.lookup, und_run ht, getObj, Sem.run, hw1, hc', a1, a3]
end ops

theorem run_mapUpdate {P : Program} {t kt et : TypeId} (ht : P.underlying t = some (.map kt et)) (hk : KeyT P kt κ enc) {w : World} {b : Nat} {es : Array MapEntry} {ck : Nat} {kvs : List (κ × Value)} (hm : MapIs enc es.toList ck kvs)
    (hb : w.heap[b]? = some (.map es ck)) (k : κ) (v : Value) :
    ∃ es' ck', (Instr.mapUpdate t (.map (some b)) (enc k) v).run P w = .ok () { w with heap := w.heap.setIfInBounds b (.map es' ck') } ∧ MapIs enc es'.toList ck' (kset kvs k v) := by
  obtain ⟨d, hu, hd, hc⟩ := hk.desc
  have hc' : ∀ em w, (Instr.checkKey em 10000 kt (enc k)).run P w = .ok () w := fun em w => hc em 9999 k w
  rcases run_findKey hk k hm.ent w with ⟨a1, a2⟩ | ⟨u, j, a1, a2, a3, ⟨e, a4, a5⟩, a6, a7⟩
  · refine ⟨es.push { key := enc k, val := v, born := ck }, ck + 1, ?_, ?_⟩
    · simp [Instr.mapUpdate, und_run ht, getObj, setObj, Sem.run, hb, hc', a2]
    · have hs : kset kvs k v = kvs ++ [(k, v)] := by
        have hnk := kget_none.1 a1
        clear a1 a2 hm hb
        induction kvs with
        | nil => rfl
        | cons p r ih =>
          obtain ⟨k', v'⟩ := p
          simp only [keys, List.map_cons, List.mem_cons, not_or] at hnk
          simp only [kset]
          rw [if_neg (fun e => hnk.1 e.symm), ih hnk.2]
          rfl
      rw [hs]
      refine ⟨?_, ?_, ?_⟩
      · simp [hm.ent]
      · rw [Array.toList_push, List.pairwise_append]
        exact ⟨hm.born, by simp, fun a ha b hb' => by simp at hb'; subst hb'; exact hm.clock a ha⟩
      · intro e he
        simp at he
        rcases he with he | rfl
        · have := hm.clock e (by simpa using he); omega
        · simp
  · have hj : j < es.size := by simpa using a2
    have hej : es[j]? = some e := by simpa using a4
    refine ⟨es.modify j fun e => { e with key := enc k, val := v }, ck, ?_, ?_⟩
    · simp [Instr.mapUpdate, und_run ht, getObj, setObj, Sem.run, hb, hc', a3, hej, a5, Instr.keyThatStays, hk.bits]
    · rw [a6 v]
      have hlen : es.toList.length = kvs.length := by simpa using congrArg List.length hm.ent
      refine ⟨?_, ?_, ?_⟩
      · rw [Array.toList_modify]
        apply List.ext_getElem?
        intro i
        have hi := congrArg (fun l => l[i]?) hm.ent
        simp only [List.getElem?_map] at hi
        simp only [List.getElem?_map, List.getElem?_modify, List.getElem?_set]
        by_cases hij : j = i
        · subst hij
          have hjl : j < kvs.length := by omega
          simp [hjl, a4]
        · simp [hij]
          simpa using hi
      · rw [Array.toList_modify, List.pairwise_iff_getElem]
        intro i1 i2 h1 h2 hlt
        have hb0 := List.pairwise_iff_getElem.1 hm.born i1 i2 (by simpa using h1) (by simpa using h2) hlt
        simp only [List.getElem_modify]
        split <;> split <;> simpa using hb0
      · intro e' he'
        rw [Array.toList_modify] at he'
        obtain ⟨i, hi, rfl⟩ := List.getElem_of_mem he'
        have := hm.clock _ (List.getElem_mem (l := es.toList) (n := i) (by simpa using hi))
        simp only [List.getElem_modify]
        split <;> simpa using this

theorem run_delete {P : Program} {t kt et : TypeId} {ty : TypeId} (ht : P.underlying t = some (.map kt et)) (hk : KeyT P kt κ enc) {w : World} {b : Nat} {es : Array MapEntry} {ck : Nat} {kvs : List (κ × Value)} (hm : MapIs enc es.toList ck kvs)
    (hb : w.heap[b]? = some (.map es ck)) (k : κ) {u : TypeId} :
    ∃ es' ck', (Builtin.delete_ #[t, u] ty #[.map (some b), enc k]).run P w = .ok (.tuple #[]) { w with heap := w.heap.setIfInBounds b (.map es' ck') } ∧ MapIs enc es'.toList ck' (kdel kvs k) := by
  obtain ⟨d, hu, hd, hc⟩ := hk.desc
  have hc' : ∀ em w, (Instr.checkKey em 10000 kt (enc k)).run P w = .ok () w := fun em w => hc em 9999 k w
  rcases run_findKey hk k hm.ent w with ⟨a1, a2⟩ | ⟨u, j, a1, a2, a3, ⟨e, a4, a5⟩, a6, a7⟩
  · refine ⟨es, ck, ?_, ?_⟩
    · simp [Builtin.delete_, und_run ht, getObj, setObj, Sem.run, hb, hc', a2]
    · rw [kdel_none (kget_none.1 a1)]; exact hm
  · refine ⟨es.eraseIdxIfInBounds j, ck, ?_, ?_⟩
    · simp [Builtin.delete_, und_run ht, getObj, setObj, Sem.run, hb, hc', a3]
    · rw [a7]
      have hl : (es.eraseIdxIfInBounds j).toList = es.toList.eraseIdx j := by simp
      refine ⟨?_, ?_, ?_⟩
      · rw [hl, eraseIdx_map', hm.ent, eraseIdx_map']
      · rw [hl]; exact hm.born.sublist (List.eraseIdx_sublist _ _)
      · intro e he
        rw [hl] at he
        exact hm.clock e (List.mem_of_mem_eraseIdx he)

theorem heap_setIf {w : World} {b : Nat} {o o' : Obj} (hb : w.heap[b]? = some o) :
    ({ w with heap := w.heap.setIfInBounds b o' } : World).heap[b]? = some o' ∧ ∀ i x, i ≠ b → w.heap[i]? = some x → ({ w with heap := w.heap.setIfInBounds b o' } : World).heap[i]? = some x := by
  have hlt := (Array.getElem?_eq_some_iff.1 hb).1
  constructor
  · simp [hlt]
  · intro i x hi hx
    simp only
    rw [Array.getElem?_setIfInBounds_ne (by omega)]
    exact hx

section eff
variable {c : Place} {ds : List Deferred} {l : Env} {w : World} {K : Env → World → Prop} {L : List Hp} {ty : TypeId} {pos : String} {af : Array Edge} {g : Option (Nat × Bool)} {x y z : Operand} {d : Nat}
omit [DecidableEq κ] in
theorem Sat.updMap {w : World} {L : List Hp} {b : Nat} {kvs kvs' : List (κ × Value)} (n : Nat) (h : Sat w L) (hL : L[n]? = some (mapR enc b kvs)) {es' : Array MapEntry} {ck' : Nat} (hm : MapIs enc es'.toList ck' kvs') :
    Sat { w with heap := w.heap.setIfInBounds b (.map es' ck') } (L.set n (mapR enc b kvs')) := by
  obtain ⟨gp, hsub, ⟨es, ck, hb, _⟩, upd⟩ := h.upd n hL
  obtain ⟨h1, h2⟩ := heap_setIf (o' := .map es' ck') (hsub b _ hb)
  refine upd _ (fun i => if i = b then some (.map es' ck') else none) _ ⟨es', ck', by simp, hm⟩ (fun i o ho => ?_) (fun i => ?_) (fun i o hg ho => ?_)
  · by_cases hi : i = b
    · subst hi; simp at ho; subst ho; exact h1
    · simp [hi] at ho
  · by_cases hi : i = b
    · subst hi; exact .inr (.inl (by rw [hb]; simp))
    · exact .inl (by simp [hi])
  · exact h2 i o (by rintro rfl; rw [hb] at hg; cases hg) ho
theorem ef_mapUpdate {t kt et : TypeId} (ht : c.P.underlying t = some (.map kt et)) (hk : KeyT c.P kt κ enc) (n : Nat) {b : Nat} {kvs : List (κ × Value)} {k : κ} {v : Value}
    (hx : ev l x = some (.map (some b))) (hy : ev l y = some (enc k)) (hz : ev l z = some v) (h : Sat w L) (hL : L[n]? = some (mapR enc b kvs))
    (kk : ∀ w', Sat w' (L.set n (mapR enc b (kset kvs k v))) → K l w') : OpE c ds ⟨none, .mapUpdate t x y z, ty, pos, af, g⟩ l w K := by
  obtain ⟨gp, hsub, es, ck, hb, hm⟩ := SatH.get n h hL
  obtain ⟨es', ck', hr, hm'⟩ := run_mapUpdate ht hk hm (hsub b _ hb) k v
  refine OpE.unit rfl (w' := _) (fun ρ hρ => ?_) (kk _ (h.updMap n hL hm'))
  rw [Oper.semAt_eq _ _ _ (by intro c; simp)]
  simp [execOp, hρ _ _ hx, hρ _ _ hy, hρ _ _ hz, hr]
theorem ef_delete {t kt et u : TypeId} (ht : c.P.underlying t = some (.map kt et)) (hk : KeyT c.P kt κ enc) (n : Nat) {b : Nat} {kvs : List (κ × Value)} {k : κ}
    (hx : ev l x = some (.map (some b))) (hy : ev l y = some (enc k)) (h : Sat w L) (hL : L[n]? = some (mapR enc b kvs))
    (kk : ∀ w', Sat w' (L.set n (mapR enc b (kdel kvs k))) → K l w') : OpE c ds ⟨none, .call ⟨.builtin .delete, #[x, y], #[t, u]⟩, ty, pos, af, g⟩ l w K := by
  obtain ⟨gp, hsub, es, ck, hb, hm⟩ := SatH.get n h hL
  obtain ⟨es', ck', hr, hm'⟩ := run_delete (ty := ty) (u := u) ht hk hm (hsub b _ hb) k
  refine OpE.valueless rfl (v := .tuple #[]) (w' := _) (fun ρ hρ => ?_) (kk _ (h.updMap n hL hm'))
  rw [Oper.semAt_eq _ _ _ (by intro c; simp)]
  simp [execOp, resolve, invoke, builtin, hρ _ _ hx, hρ _ _ hy, hr]
omit [DecidableEq κ] in
theorem mapR_empty (enc : κ → Value) (b : Nat) : ∀ h, pt b (.map #[] 0) h → mapR enc b [] h := fun h e => ⟨#[], 0, e, by simp, by simp, by simp⟩
end eff
end
end Go.Proofs.Slx
