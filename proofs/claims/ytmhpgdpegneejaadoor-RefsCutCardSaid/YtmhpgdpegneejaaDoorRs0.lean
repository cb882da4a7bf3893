import Derived.Test.YtmhpgdpegneejaaDoorNa0
set_option linter.unusedVariables false
set_option linter.unusedSimpArgs false
namespace Go.Proofs.YtmhpgdpegneejaaDoor
open Go Go.Proofs Go.Proofs.Slx
/-! ### Refs -/
abbrev Ids := List (ByteArray × Nat)
def encI (I : Ids) : List (ByteArray × Value) := I.map fun p => (p.1, .int .u64 (p.2 : Int))
def encB (ks : List ByteArray) : List (ByteArray × Value) := ks.map fun k => (k, .bool true)
theorem keys_encI (I : Ids) : keys (encI I) = keys I := by simp [keys, encI]
theorem kget_encI : ∀ (I : Ids) (k : ByteArray), kget (encI I) k = (kget I k).map fun n => .int .u64 (n : Int)
  | [], k => rfl
  | (q, n) :: r, k => by
    have := kget_encI r k
    simp only [encI, List.map_cons, kget] at this ⊢
    split
    · rfl
    · exact this
theorem kset_encI : ∀ (I : Ids) (k : ByteArray) (n : Nat), kset (encI I) k (.int .u64 (n : Int)) = encI (kset I k n)
  | [], k, n => rfl
  | (q, m) :: r, k, n => by
    have := kset_encI r k n
    simp only [encI, List.map_cons, kset] at this ⊢
    split
    · rfl
    · simp only [List.map_cons, this]
theorem kdel_encI : ∀ (I : Ids) (k : ByteArray), kdel (encI I) k = encI (kdel I k)
  | [], k => rfl
  | (q, m) :: r, k => by
    have := kdel_encI r k
    simp only [encI, List.map_cons, kdel] at this ⊢
    split
    · rfl
    · simp only [List.map_cons, this]
theorem len_encI (I : Ids) : (encI I).length = I.length := by simp [encI]
def hasK (k : ByteArray) (ks : List ByteArray) : Bool := ks.any fun q => decide (q = k)
theorem hasK_iff {k : ByteArray} {ks : List ByteArray} : hasK k ks = true ↔ k ∈ ks := by
  simp only [hasK, List.any_eq_true, decide_eq_true_eq]
  constructor
  · rintro ⟨x, h, rfl⟩; exact h
  · intro h; exact ⟨k, h, rfl⟩
theorem look_b : ∀ (ks : List ByteArray) (k : ByteArray), (kget (encB ks) k).getD (.bool false) = .bool (hasK k ks)
  | [], k => rfl
  | q :: r, k => by
    have := look_b r k
    simp only [encB, List.map_cons, kget, hasK, List.any_cons] at this ⊢
    by_cases h : q = k
    · simp [h]
    · rw [if_neg h, this]; simp [h]
theorem kset_encB : ∀ (ks : List ByteArray) (k : ByteArray), ¬hasK k ks = true → kset (encB ks) k (.bool true) = encB (ks ++ [k])
  | [], k, h => rfl
  | q :: r, k, h => by
    have h1 : ¬q = k := fun e => h (by simp [hasK, e])
    have := kset_encB r k (fun x => h (by simp only [hasK, List.any_cons, Bool.or_eq_true] at x ⊢; exact .inr x))
    simp only [encB, List.map_cons, kset, if_neg h1] at this ⊢
    rw [this]; rfl
/-- The same refs, in whatever order. -/
def Eqv (K I : Ids) : Prop := (∀ k, kget K k = kget I k) ∧ (keys K).Nodup ∧ (keys I).Nodup
theorem mem_keys_kget {I : Ids} {k : ByteArray} : k ∈ keys I ↔ (kget I k).isSome = true := by
  constructor
  · intro h; obtain ⟨v, e⟩ := kget_some_mem h; rw [e]; rfl
  · intro h
    cases Classical.em (k ∈ keys I) with
    | inl x => exact x
    | inr x => rw [kget_none.2 x] at h; cases h
theorem Eqv.perm {K I : Ids} (h : Eqv K I) : (keys K).Perm (keys I) := by
  refine (List.perm_ext_iff_of_nodup h.2.1 h.2.2).2 fun k => ?_
  rw [mem_keys_kget, mem_keys_kget, h.1]
theorem Eqv.len {K I : Ids} (h : Eqv K I) : K.length = I.length := by
  have := h.perm.length_eq
  simpa [keys] using this
theorem Eqv.refl {I : Ids} (h : (keys I).Nodup) : Eqv I I := ⟨fun _ => rfl, h, h⟩
/-- Changes laid over refs. -/
def layI (I : Ids) (C : Ids) : Ids := C.foldl (fun I c => if c.2 = 0 then kdel I c.1 else kset I c.1 c.2) I
def layG (I : Ids) (C : Ids) (k : ByteArray) : Option Nat := match kget C k with | some 0 => none | some (n + 1) => some (n + 1) | none => kget I k
theorem lay1_nodup {I : Ids} (h : (keys I).Nodup) (c : ByteArray × Nat) : (keys (if c.2 = 0 then kdel I c.1 else kset I c.1 c.2)).Nodup := by
  split
  · exact Slx.nodup_kdel h _
  · exact Slx.nodup_kset h _ _
theorem lay1_get {I : Ids} (h : (keys I).Nodup) (c : ByteArray × Nat) (k : ByteArray) : kget (if c.2 = 0 then kdel I c.1 else kset I c.1 c.2) k = if c.1 = k then (if c.2 = 0 then none else some c.2) else kget I k := by
  split
  · rw [kget_kdel h]
  · rw [kget_kset]
theorem layI_nodup : ∀ (C : Ids) {I : Ids}, (keys I).Nodup → (keys (layI I C)).Nodup
  | [], I, h => h
  | c :: C, I, h => layI_nodup C (lay1_nodup h c)
theorem layI_get : ∀ (C : Ids) {I : Ids}, (keys I).Nodup → (keys C).Nodup → ∀ k, kget (layI I C) k = layG I C k
  | [], I, h, hc, k => rfl
  | c :: C, I, h, hc, k => by
    simp only [keys, List.map_cons, List.nodup_cons] at hc
    have ih := layI_get C (lay1_nodup h c) hc.2 k
    rw [show layI I (c :: C) = layI (if c.2 = 0 then kdel I c.1 else kset I c.1 c.2) C from rfl, ih]
    obtain ⟨q, n⟩ := c
    simp only [layG, kget]
    by_cases e : q = k
    · subst e
      rw [kget_none.2 hc.1, if_pos rfl]
      simp only []
      rw [lay1_get h (q, n), if_pos rfl]
      cases n <;> simp
    · rw [if_neg e]
      cases hk : kget C k with
      | some n' => cases n' <;> rfl
      | none => simp only []; rw [lay1_get h (q, n), if_neg e]
def jnil : Value := .pointer none
/-- The struct, and the map in it. -/
def idsR (b : Nat) (jv : Value) (I : Ids) : Hp := fun h => ∃ m K, Eqv K I ∧ all [pt b (.cells #[.map (some m), jv] 91), mapR strK m (encI K)] h
theorem idsR_open {b : Nat} {jv : Value} {I : Ids} {w : World} {R : List Hp} (h : Sat w (idsR b jv I :: R)) : ∃ m K, Eqv K I ∧ Sat w (pt b (.cells #[.map (some m), jv] 91) :: mapR strK m (encI K) :: R) := by
  obtain ⟨h1, h2, d, s1, s2, ⟨m, K, e, a⟩, r⟩ := h
  exact ⟨m, K, e, Sat.join ⟨h1, h2, d, s1, s2, a, r⟩⟩
theorem idsR_close {b m : Nat} {jv : Value} {I K : Ids} {w : World} {R : List Hp} (e : Eqv K I) (h : Sat w (pt b (.cells #[.map (some m), jv] 91) :: mapR strK m (encI K) :: R)) : Sat w (idsR b jv I :: R) := by
  obtain ⟨h1, h2, d, s1, s2, a, r⟩ := Sat.part (L := [_, _]) h
  exact ⟨h1, h2, d, s1, s2, ⟨m, K, e, a⟩, r⟩
def refsR (b d : Nat) (I : Ids) (J : JrnV) : Hp := fun h => ∃ jb, all [idsR b (.pointer (some ⟨jb, 0, none⟩)) I, jrnR jb d nmRefs J] h
theorem refsR_open {b d : Nat} {I : Ids} {J : JrnV} {w : World} {R : List Hp} (h : Sat w (refsR b d I J :: R)) : ∃ jb, Sat w (idsR b (.pointer (some ⟨jb, 0, none⟩)) I :: jrnR jb d nmRefs J :: R) := by
  obtain ⟨h1, h2, d', s1, s2, ⟨jb, a⟩, r⟩ := h
  exact ⟨jb, Sat.join ⟨h1, h2, d', s1, s2, a, r⟩⟩
theorem refsR_close {b d jb : Nat} {I : Ids} {J : JrnV} {w : World} {R : List Hp} (h : Sat w (idsR b (.pointer (some ⟨jb, 0, none⟩)) I :: jrnR jb d nmRefs J :: R)) : Sat w (refsR b d I J :: R) := by
  obtain ⟨h1, h2, d', s1, s2, a, r⟩ := Sat.part (L := [_, _]) h
  exact ⟨h1, h2, d', s1, s2, ⟨jb, a⟩, r⟩
theorem idsR_nodup {b : Nat} {jv : Value} {I : Ids} {w : World} {L : List Hp} (i : Nat) (h : Sat w L) (hL : L[i]? = some (idsR b jv I)) : (keys I).Nodup := by
  obtain ⟨g, s, m, K, e, _⟩ := SatH.get i h hL
  exact e.2.2
theorem refsR_nodup {b d : Nat} {I : Ids} {J : JrnV} {w : World} {R : List Hp} (h : Sat w (refsR b d I J :: R)) : (keys I).Nodup := by
  obtain ⟨jb, h⟩ := refsR_open h
  exact idsR_nodup 0 h rfl
def u64z : Value := .int .u64 0
theorem look_id {K I : Ids} (e : Eqv K I) (k : ByteArray) : (kget (encI K) k).getD (.int .u64 0) = .int .u64 (((kget I k).getD 0 : Nat) : Int) := by
  rw [kget_encI, e.1]
  cases kget I k <;> rfl
theorem look_is {K I : Ids} (e : Eqv K I) (k : ByteArray) : (kget (encI K) k).isSome = (kget I k).isSome := by
  rw [kget_encI, e.1]
  cases kget I k <;> rfl
/-- Reading a record's changes. -/
def recL (I : Ids) : Nat → List UInt8 → Int → Ids → Option (Ids × List UInt8 × Int)
  | 0, bs, e, met => some (met, bs, e)
  | n + 1, bs, e, met =>
    let t := rText 200 bs e
    let x := rWord t.2.1 t.2.2
    if ¬x.2.2 = 0 ∨ (kget met (bstr t.1)).isSome = true ∨ ¬mayE (bstr t.1) = 0 then none
    else if x.1 = 0 ∧ kget I (bstr t.1) = none then none
    else recL I n x.2.1 x.2.2 (kset met (bstr t.1) x.1)
def recR (I : Ids) (bs : List UInt8) : Option (Ids × List UInt8 × Int) := recL I (rUint bs 0).1 (rUint bs 0).2.1 (rUint bs 0).2.2 []
def recI (I : Ids) (bs : List UInt8) : Ids := match recR I bs with | none => I | some t => layI I t.1
def recOk (I : Ids) (bs : List UInt8) : Bool := match recR I bs with | none => false | some t => decide (rEnd t.2.1 t.2.2 = 0) && (decide (0 < t.1.length) && decide ((layI I t.1).length ≤ 64))
/-- Reading all records. -/
def openL : Ids → List (List UInt8) → Option Ids
  | I, [] => some I
  | I, p :: r => if recOk I p = true then openL (recI I p) r else none
/-- Changing refs. -/
def setL (I : Ids) : Ids → List ByteArray → Ids → Int → List UInt8 → Int × Ids × Int × List UInt8
  | [], met, ch, sz, bs => (0, ch, sz, bs)
  | c :: r, met, ch, sz, bs =>
    if ¬mayE c.1 = 0 then (mayE c.1, ch, sz, bs)
    else if hasK c.1 met = true then (5, ch, sz, bs)
    else if c.2 = 0 ∧ kget I c.1 = none then (4, ch, sz, bs)
    else if (kget I c.1).getD 0 = c.2 then setL I r (met ++ [c.1]) ch sz bs
    else setL I r (met ++ [c.1]) (kset ch c.1 c.2) (if c.2 = 0 then sz - 1 else if (kget I c.1).isSome = true then sz else sz + 1) (bs ++ putT c.1 ++ putW c.2)
structure RefV where
  ids : Ids
  jrn : JrnV
  disk : DiskV
def RefV.set (V : RefV) (l : Ids) : RefV × Int :=
  if ¬(setL V.ids l [] [] V.ids.length []).1 = 0 then (V, (setL V.ids l [] [] V.ids.length []).1)
  else if 64 < (setL V.ids l [] [] V.ids.length []).2.2.1 then (V, 3)
  else if (setL V.ids l [] [] V.ids.length []).2.1.length = 0 then (V, 0)
  else if (V.jrn.append V.disk nmRefs (putU (setL V.ids l [] [] V.ids.length []).2.1.length ++ (setL V.ids l [] [] V.ids.length []).2.2.2)).2.2 = 0 then
    (⟨layI V.ids (setL V.ids l [] [] V.ids.length []).2.1, (V.jrn.append V.disk nmRefs (putU (setL V.ids l [] [] V.ids.length []).2.1.length ++ (setL V.ids l [] [] V.ids.length []).2.2.2)).1, (V.jrn.append V.disk nmRefs (putU (setL V.ids l [] [] V.ids.length []).2.1.length ++ (setL V.ids l [] [] V.ids.length []).2.2.2)).2.1⟩, 0)
  else (⟨V.ids, (V.jrn.append V.disk nmRefs (putU (setL V.ids l [] [] V.ids.length []).2.1.length ++ (setL V.ids l [] [] V.ids.length []).2.2.2)).1, (V.jrn.append V.disk nmRefs (putU (setL V.ids l [] [] V.ids.length []).2.1.length ++ (setL V.ids l [] [] V.ids.length []).2.2.2)).2.1⟩, (V.jrn.append V.disk nmRefs (putU (setL V.ids l [] [] V.ids.length []).2.1.length ++ (setL V.ids l [] [] V.ids.length []).2.2.2)).2.2)
/-- The refs, rising. -/
def view (I : Ids) : Ids := (sortS (keys I)).map fun k => (k, (kget I k).getD 0)
/-- A slice of refs. -/
def fcell (c : ByteArray × Nat) : List Value := [.string c.1, .int .u64 (c.2 : Int)]
def rcells (l : Ids) : List Value := l.flatMap fcell
theorem rcells_len (l : Ids) : (rcells l).length = l.length * 2 := by
  induction l with
  | nil => rfl
  | cons c r ih => simp only [rcells, List.flatMap_cons, List.length_append, List.length_cons] at ih ⊢; rw [ih]; simp [fcell]; omega
theorem rcells_snoc (l : Ids) (c : ByteArray × Nat) : rcells (l ++ [c]) = rcells l ++ [.string c.1, .int .u64 (c.2 : Int)] := by simp [rcells, fcell]
theorem rcells_at : ∀ {l : Ids} {i : Nat} {c : ByteArray × Nat}, l[i]? = some c → (rcells l)[i * 2]? = some (.string c.1) ∧ (rcells l)[i * 2 + 1]? = some (.int .u64 (c.2 : Int))
  | [], i, c, h => by simp at h
  | q :: r, 0, c, h => by simp at h; subst h; simp [rcells, fcell]
  | q :: r, i + 1, c, h => by
    have := rcells_at (l := r) (i := i) (by simpa using h)
    simp only [rcells, List.flatMap_cons, fcell, show (i + 1) * 2 = i * 2 + 2 by omega, show i * 2 + 2 + 1 = (i * 2 + 1) + 2 by omega, List.cons_append, List.getElem?_cons_succ, List.nil_append] at this ⊢
    exact this
theorem ones_rcells (l : Ids) : ones (rcells l) = true := by
  induction l with
  | nil => rfl
  | cons c r ih => simp only [rcells, List.flatMap_cons, ones, List.all_append] at ih ⊢; rw [ih]; simp [fcell, Value.oneCell']
end Go.Proofs.YtmhpgdpegneejaaDoor
namespace Go.Proofs.YtmhpgdpegneejaaDoor
open Go Go.Proofs Go.Proofs.Slx
theorem mem_encI {C : Ids} {q : ByteArray} {v : Value} (hC : (keys C).Nodup) (h : (q, v) ∈ encI C) : ∃ id : Nat, v = .int .u64 (id : Int) ∧ kget C q = some id := by
  obtain ⟨⟨q', id⟩, hm, e⟩ := List.mem_map.1 h
  simp only [Prod.mk.injEq] at e
  obtain ⟨rfl, rfl⟩ := e
  exact ⟨id, rfl, kget_mem hC hm⟩
structure LayS (K C Kc : Ids) (left : List (ByteArray × Value)) : Prop where
  nd : (keys Kc).Nodup
  ndl : (keys left).Nodup
  sub : ∀ x ∈ left, x ∈ encI C
  ahead : ∀ k, k ∈ keys left → kget Kc k = kget K k
  done : ∀ k, k ∉ keys left → kget Kc k = layG K C k
theorem LayS.start {K C : Ids} (hK : (keys K).Nodup) (hC : (keys C).Nodup) : LayS K C K (encI C) :=
  ⟨hK, by rw [keys_encI]; exact hC, fun _ h => h, fun _ _ => rfl, fun k h => by rw [keys_encI] at h; simp only [layG, kget_none.2 h]⟩
theorem LayS.step {K C Kc Kc' : Ids} {left l1 l2 : List (ByteArray × Value)} {q : ByteArray} {v : Value} {id : Nat} (h : LayS K C Kc left) (hl : left = l1 ++ (q, v) :: l2) (hid : kget C q = some id)
    (hn : (keys Kc').Nodup) (hg : ∀ k, kget Kc' k = if q = k then (if id = 0 then none else some id) else kget Kc k) : LayS K C Kc' (l1 ++ l2) := by
  subst hl
  have hp : (keys (l1 ++ (q, v) :: l2)).Perm (q :: keys (l1 ++ l2)) := by simp only [keys, List.map_append, List.map_cons]; exact List.perm_middle
  have hnd := hp.nodup_iff.1 h.ndl
  rw [List.nodup_cons] at hnd
  refine ⟨hn, hnd.2, fun x hx => h.sub x ?_, fun k hk => ?_, fun k hk => ?_⟩
  · rcases List.mem_append.1 hx with y | y
    · exact List.mem_append_left _ y
    · exact List.mem_append_right _ (List.mem_cons_of_mem _ y)
  · have : ¬q = k := fun e => hnd.1 (e ▸ hk)
    rw [hg, if_neg this]
    exact h.ahead k (hp.mem_iff.2 (List.mem_cons_of_mem _ hk))
  · rw [hg]
    by_cases e : q = k
    · subst e
      rw [if_pos rfl]
      simp only [layG, hid]
      cases id <;> simp
    · rw [if_neg e]
      refine h.done k (fun x => ?_)
      rcases List.mem_cons.1 (hp.mem_iff.1 x) with y | y
      · exact e y.symm
      · exact hk y
end Go.Proofs.YtmhpgdpegneejaaDoor

namespace Go.Proofs.Slx
theorem rUint_range (bs : List UInt8) (e : Int) : (rUint bs e).1 < 18446744073709551616 := by
  have := num_range bs
  simp only [rUint]
  repeat' split
  all_goals simp
  all_goals omega
end Go.Proofs.Slx

namespace Go.Proofs.YtmhpgdpegneejaaDoor
open Go Go.Proofs Go.Proofs.Slx
section
variable {I met : Ids} {n : Nat} {bl : List UInt8} {er : Int}
theorem recL_bad (hn : 0 < n) (h : ¬(rWord (rText 200 bl er).2.1 (rText 200 bl er).2.2).2.2 = 0 ∨ (kget met (bstr (rText 200 bl er).1)).isSome = true ∨ ¬mayE (bstr (rText 200 bl er).1) = 0) : recL I n bl er met = none := by
  obtain ⟨k, rfl⟩ : ∃ k, n = k + 1 := ⟨n - 1, by omega⟩
  simp only [recL, if_pos h]
theorem recL_none (hn : 0 < n) (h : ¬(¬(rWord (rText 200 bl er).2.1 (rText 200 bl er).2.2).2.2 = 0 ∨ (kget met (bstr (rText 200 bl er).1)).isSome = true ∨ ¬mayE (bstr (rText 200 bl er).1) = 0))
    (h1 : (rWord (rText 200 bl er).2.1 (rText 200 bl er).2.2).1 = 0) (h2 : kget I (bstr (rText 200 bl er).1) = none) : recL I n bl er met = none := by
  obtain ⟨k, rfl⟩ : ∃ k, n = k + 1 := ⟨n - 1, by omega⟩
  simp only [recL]
  rw [if_neg h, if_pos ⟨h1, h2⟩]
theorem recL_go (hn : 0 < n) (h : ¬(¬(rWord (rText 200 bl er).2.1 (rText 200 bl er).2.2).2.2 = 0 ∨ (kget met (bstr (rText 200 bl er).1)).isSome = true ∨ ¬mayE (bstr (rText 200 bl er).1) = 0))
    (h1 : ¬((rWord (rText 200 bl er).2.1 (rText 200 bl er).2.2).1 = 0 ∧ kget I (bstr (rText 200 bl er).1) = none)) :
    recL I n bl er met = recL I (n - 1) (rWord (rText 200 bl er).2.1 (rText 200 bl er).2.2).2.1 (rWord (rText 200 bl er).2.1 (rText 200 bl er).2.2).2.2 (kset met (bstr (rText 200 bl er).1) (rWord (rText 200 bl er).2.1 (rText 200 bl er).2.2).1) := by
  obtain ⟨k, rfl⟩ : ∃ k, n = k + 1 := ⟨n - 1, by omega⟩
  simp only [recL, Nat.add_sub_cancel]
  rw [if_neg h, if_neg h1]
end
end Go.Proofs.YtmhpgdpegneejaaDoor

namespace Go.Proofs.YtmhpgdpegneejaaDoor
open Go Go.Proofs Go.Proofs.Slx
theorem openL_app : ∀ (l m : List (List UInt8)) (I : Ids), openL I (l ++ m) = (openL I l).bind fun K => openL K m
  | [], m, I => rfl
  | p :: l, m, I => by
    simp only [List.cons_append, openL]
    split
    · exact openL_app l m _
    · rfl
theorem openL_step {l : List (List UInt8)} {i : Nat} {I I0 : Ids} {r : List UInt8} (h : openL I0 (l.take i) = some I) (hr : l[i]? = some r) (ho : recOk I r = true) : openL I0 (l.take (i + 1)) = some (recI I r) := by
  rw [List.take_add_one, hr, openL_app, h]
  simp [openL, ho]
theorem openL_stop {l : List (List UInt8)} {i : Nat} {I I0 : Ids} {r : List UInt8} (h : openL I0 (l.take i) = some I) (hr : l[i]? = some r) (ho : recOk I r = false) : openL I0 l = none := by
  obtain ⟨hi, e⟩ := List.getElem?_eq_some_iff.1 hr
  have e2 : l = l.take i ++ r :: l.drop (i + 1) := by rw [← drop_cons hr, List.take_append_drop]
  rw [e2, openL_app, h]
  simp [openL, ho]
theorem jparse_len : ∀ (n : Nat) (bs : List UInt8), bs.length ≤ n → (jparse bs).1.flatten.length + (jparse bs).1.length ≤ (jparse bs).2.1 ∧ (jparse bs).2.1 ≤ bs.length
  | n, bs, hn => by
    by_cases h0 : bs.length = 0
    · rw [List.length_eq_zero_iff.1 h0, jparse_nil]; simp
    by_cases h1 : (rWord (rText 262144 bs 0).2.1 (rText 262144 bs 0).2.2).2.2 = 110
    · rw [jparse_short h0 h1]; simp
    by_cases h2 : (rWord (rText 262144 bs 0).2.1 (rText 262144 bs 0).2.2).2.2 = 0
    · by_cases h3 : (rWord (rText 262144 bs 0).2.1 (rText 262144 bs 0).2.2).1 = hsh (rText 262144 bs 0).1
      · rw [jparse_go h2 h3]
        obtain ⟨e0, hl⟩ := rWord_len h2
        have ht := rText_len e0
        match n, hn with
        | n + 1, hn =>
          have ih := jparse_len n (rWord (rText 262144 bs 0).2.1 (rText 262144 bs 0).2.2).2.1 (by omega)
          simp only [List.flatten_cons, List.length_append, List.length_cons]
          omega
        | 0, hn => omega
      · rw [jparse_wrong h0 h1 (.inr h3)]; simp
    · rw [jparse_wrong h0 h1 (.inl h2)]; simp
def pureR (p : Prop) : Hp := fun _ => p
theorem sat_pureR {p : Prop} {w : World} {R : List Hp} (h : Sat w (pureR p :: R)) : p := by
  obtain ⟨_, _, _, _, _, x, _⟩ := h
  exact x
def idsX (b : Nat) (jv : Value) (P : Ids → Prop) : Hp := fun g => ∃ I, P I ∧ idsR b jv I g
theorem idsX_open {b : Nat} {jv : Value} {P : Ids → Prop} {w : World} {R : List Hp} (h : Sat w (idsX b jv P :: R)) : ∃ I, P I ∧ Sat w (idsR b jv I :: R) := by
  obtain ⟨h1, h2, d, s1, s2, ⟨I, p, x⟩, r⟩ := h
  exact ⟨I, p, h1, h2, d, s1, s2, x, r⟩
theorem idsX_close {b : Nat} {jv : Value} {P : Ids → Prop} {I : Ids} {w : World} {R : List Hp} (p : P I) (h : Sat w (idsR b jv I :: R)) : Sat w (idsX b jv P :: R) :=
  h.head fun g x => ⟨I, p, x⟩
end Go.Proofs.YtmhpgdpegneejaaDoor

namespace Go.Proofs.YtmhpgdpegneejaaDoor
open Go Go.Proofs Go.Proofs.Slx
theorem ksetL_len {α : Type} : ∀ (l : List (ByteArray × α)) (k : ByteArray) (v : α), (kset l k v).length ≤ l.length + 1
  | [], k, v => by simp [kset]
  | (q, u) :: r, k, v => by
    simp only [kset]
    split
    · simp
    · have := ksetL_len r k v
      simp only [List.length_cons]; omega
section
variable {I ch : Ids} {l : Ids} {i : Nat} {q : ByteArray × Nat} {met : List ByteArray} {sz : Int} {bs : List UInt8}
theorem setL_out (h : l.length ≤ i) : setL I (l.drop i) met ch sz bs = (0, ch, sz, bs) := by rw [List.drop_eq_nil_of_le h]; rfl
theorem setL_may (hq : l[i]? = some q) (h : ¬mayE q.1 = 0) : setL I (l.drop i) met ch sz bs = (mayE q.1, ch, sz, bs) := by
  rw [drop_cons hq]; simp only [setL]; rw [if_pos h]
theorem setL_twice (hq : l[i]? = some q) (h : mayE q.1 = 0) (h1 : hasK q.1 met = true) : setL I (l.drop i) met ch sz bs = (5, ch, sz, bs) := by
  rw [drop_cons hq]; simp only [setL]; rw [if_neg (fun x => x h), if_pos h1]
theorem setL_none (hq : l[i]? = some q) (h : mayE q.1 = 0) (h1 : hasK q.1 met = false) (h2 : q.2 = 0) (h3 : kget I q.1 = none) : setL I (l.drop i) met ch sz bs = (4, ch, sz, bs) := by
  rw [drop_cons hq]; simp only [setL]; rw [if_neg (fun x => x h), if_neg (by rw [h1]; decide), if_pos ⟨h2, h3⟩]
theorem setL_same (hq : l[i]? = some q) (h : mayE q.1 = 0) (h1 : hasK q.1 met = false) (h2 : ¬(q.2 = 0 ∧ kget I q.1 = none)) (h3 : (kget I q.1).getD 0 = q.2) :
    setL I (l.drop i) met ch sz bs = setL I (l.drop (i + 1)) (met ++ [q.1]) ch sz bs := by
  rw [drop_cons hq]; simp only [setL]; rw [if_neg (fun x => x h), if_neg (by rw [h1]; decide), if_neg h2, if_pos h3]
theorem setL_go {sz' : Int} (hq : l[i]? = some q) (h : mayE q.1 = 0) (h1 : hasK q.1 met = false) (h2 : ¬(q.2 = 0 ∧ kget I q.1 = none)) (h3 : ¬(kget I q.1).getD 0 = q.2)
    (hs : (if q.2 = 0 then sz - 1 else if (kget I q.1).isSome = true then sz else sz + 1) = sz') :
    setL I (l.drop i) met ch sz bs = setL I (l.drop (i + 1)) (met ++ [q.1]) (kset ch q.1 q.2) sz' (bs ++ putT q.1 ++ putW q.2) := by
  rw [drop_cons hq, ← hs]; simp only [setL]; rw [if_neg (fun x => x h), if_neg (by rw [h1]; decide), if_neg h2, if_neg h3]
end
section
variable {V : RefV} {l ch : Ids} {e sz : Int} {bs : List UInt8}
theorem set_err (hv : setL V.ids l [] [] V.ids.length [] = (e, ch, sz, bs)) (h : ¬e = 0) : V.set l = (V, e) := by
  simp only [RefV.set, hv]; rw [if_pos h]
theorem set_long (hv : setL V.ids l [] [] V.ids.length [] = (0, ch, sz, bs)) (h : 64 < sz) : V.set l = (V, 3) := by
  simp only [RefV.set, hv]; rw [if_neg (by simp), if_pos h]
theorem set_nil (hv : setL V.ids l [] [] V.ids.length [] = (0, ch, sz, bs)) (h : ¬64 < sz) (h1 : ch.length = 0) : V.set l = (V, 0) := by
  simp only [RefV.set, hv]; rw [if_neg (by simp), if_neg h, if_pos h1]
theorem set_bad (hv : setL V.ids l [] [] V.ids.length [] = (0, ch, sz, bs)) (h : ¬64 < sz) (h1 : ¬ch.length = 0) (h2 : ¬(V.jrn.append V.disk nmRefs (putU ch.length ++ bs)).2.2 = 0) :
    V.set l = (⟨V.ids, (V.jrn.append V.disk nmRefs (putU ch.length ++ bs)).1, (V.jrn.append V.disk nmRefs (putU ch.length ++ bs)).2.1⟩, (V.jrn.append V.disk nmRefs (putU ch.length ++ bs)).2.2) := by
  simp only [RefV.set, hv]; rw [if_neg (by simp), if_neg h, if_neg h1, if_neg h2]
theorem set_ok (hv : setL V.ids l [] [] V.ids.length [] = (0, ch, sz, bs)) (h : ¬64 < sz) (h1 : ¬ch.length = 0) (h2 : (V.jrn.append V.disk nmRefs (putU ch.length ++ bs)).2.2 = 0) :
    V.set l = (⟨layI V.ids ch, (V.jrn.append V.disk nmRefs (putU ch.length ++ bs)).1, (V.jrn.append V.disk nmRefs (putU ch.length ++ bs)).2.1⟩, 0) := by
  simp only [RefV.set, hv]; rw [if_neg (by simp), if_neg h, if_neg h1, if_pos h2]
end
end Go.Proofs.YtmhpgdpegneejaaDoor
