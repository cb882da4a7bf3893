import Derived.Test.YtmhpgdpegneejaaDoorTy
set_option linter.unusedVariables false
namespace Go.Proofs.YtmhpgdpegneejaaDoor
open Go Go.Proofs Go.Proofs.Slx

/-- A disk: its files in the order in which they stand, raw writes done, those left, cut? -/
structure DiskV where
  files : List (ByteArray × List UInt8)
  writes : Int
  left : Int
  cut : Bool
def DiskV.setCut (D : DiskV) (n : Int) : DiskV := if n < 0 then D else { D with left := n, cut := true }
def DiskV.mend (D : DiskV) : DiskV := { D with left := 0, cut := false }
/-- Does it no raw write more? -/
def DiskV.stop (D : DiskV) : Bool := D.cut && decide (D.left = 0)
def DiskV.went (D : DiskV) : DiskV := { D with writes := IntKind.i64.wrap (D.writes + 1), left := if D.cut then IntKind.i64.wrap (D.left - 1) else D.left }
/-- A raw write. -/
def DiskV.raw (D : DiskV) (f : List (ByteArray × List UInt8) → List (ByteArray × List UInt8)) : DiskV × Int :=
  if D.stop then (D, 6) else ({ D.went with files := f D.files }, 0)
def mayB (c : UInt8) : Bool := (97 ≤ c && c ≤ 122) || (48 ≤ c && c ≤ 57) || c == 45 || c == 46
def may (s : ByteArray) : Bool := decide (1 ≤ s.size) && decide (s.size ≤ 32) && s.data.toList.all mayB

theorem mayB_iff {c : UInt8} : mayB c = true ↔ (97 ≤ (c.toNat : Int) ∧ (c.toNat : Int) ≤ 122) ∨ (48 ≤ (c.toNat : Int) ∧ (c.toNat : Int) ≤ 57) ∨ (c.toNat : Int) = 45 ∨ (c.toNat : Int) = 46 := by
  simp only [mayB, Bool.or_eq_true, Bool.and_eq_true, decide_eq_true_eq, UInt8.le_iff_toNat_le, beq_iff_eq, ← UInt8.toNat_inj]
  simp only [show (97 : UInt8).toNat = 97 from rfl, show (122 : UInt8).toNat = 122 from rfl, show (48 : UInt8).toNat = 48 from rfl, show (57 : UInt8).toNat = 57 from rfl, show (45 : UInt8).toNat = 45 from rfl, show (46 : UInt8).toNat = 46 from rfl]
  omega
theorem may_no {s : ByteArray} (h : ¬(1 ≤ s.size ∧ s.size ≤ 32)) : may s = false := by
  unfold may
  have : (decide (1 ≤ s.size) && decide (s.size ≤ 32)) = false := by
    rw [← Bool.decide_and]
    exact decide_eq_false h
  rw [this, Bool.false_and]
theorem may_bad {s : ByteArray} {i : Nat} {c : UInt8} (hc : s.data[i]? = some c) (h : ¬mayB c = true) : may s = false := by
  have : s.data.toList.all mayB = false := by
    rw [List.all_eq_false]
    exact ⟨c, List.mem_of_getElem? (i := i) (by simpa using hc), by simpa using h⟩
  simp [may, this]
theorem may_step {s : ByteArray} {i : Nat} {c : UInt8} (hc : s.data[i]? = some c) (h : (s.data.toList.take i).all mayB = true) (hm : mayB c = true) : (s.data.toList.take (i + 1)).all mayB = true := by
  have hc' : s.data.toList[i]? = some c := by simpa using hc
  obtain ⟨hi, e⟩ := List.getElem?_eq_some_iff.1 hc'
  rw [List.take_add_one, hc', List.all_append, h]
  simp [hm]
theorem may_yes {s : ByteArray} {i : Nat} (h1 : 1 ≤ s.size) (h2 : s.size ≤ 32) (hi : s.size ≤ i) (h : (s.data.toList.take i).all mayB = true) : may s = true := by
  rw [List.take_of_length_le (by have : s.data.toList.length = s.size := rfl; omega)] at h
  simp [may, h1, h2, h]
/-- The pieces of an Append. -/
def DiskV.pieces (D : DiskV) (name : ByteArray) (bs : List UInt8) : DiskV × Int :=
  if hb : bs = [] then (D, 0)
  else if D.stop then (D, 6)
  else DiskV.pieces { D.went with files := kset D.files name (((kget D.files name).getD []) ++ bs.take 32) } name (bs.drop 32)
termination_by bs.length
decreasing_by
  have : 0 < bs.length := List.length_pos_iff.2 hb
  simp; omega
def DiskV.append (D : DiskV) (name : ByteArray) (bs : List UInt8) : DiskV × Int :=
  if may name = false then (D, 2)
  else match kget D.files name with
    | none => if D.files.length = 256 then (D, 3) else if 4194304 < bs.length then (D, 3) else if bs = [] then D.raw fun fs => kset fs name [] else D.pieces name bs
    | some f => if (4194304 : Int) - f.length < bs.length then (D, 3) else D.pieces name bs
def DiskV.truncate (D : DiskV) (name : ByteArray) (n : Int) : DiskV × Int :=
  match kget D.files name with
  | none => (D, 4)
  | some f => if n < 0 ∨ f.length < n then (D, 2) else if n = f.length then (D, 0) else D.raw fun fs => kset fs name (f.take n.toNat)
def DiskV.rename (D : DiskV) (src to : ByteArray) : DiskV × Int :=
  if may to = false then (D, 2)
  else match kget D.files src with
    | none => (D, 4)
    | some f => if src = to then (D, 0) else D.raw fun fs => kset (kdel fs src) to f
def DiskV.remove (D : DiskV) (name : ByteArray) : DiskV × Int :=
  match kget D.files name with
  | none => (D, 4)
  | some _ => D.raw fun fs => kdel fs name

section
variable {D : DiskV} {name : ByteArray} {bs f : List UInt8}
theorem pieces_nil : D.pieces name [] = (D, 0) := by rw [DiskV.pieces]; rfl
theorem pieces_stop (hb : bs ≠ []) (hs : D.stop = true) : D.pieces name bs = (D, 6) := by rw [DiskV.pieces]; simp [hb, hs]
theorem pieces_go (hb : bs ≠ []) (hs : D.stop = false) : D.pieces name bs = DiskV.pieces { D.went with files := kset D.files name (((kget D.files name).getD []) ++ bs.take 32) } name (bs.drop 32) := by
  rw [DiskV.pieces]; simp [hb, hs]
theorem append_bad (h : ¬may name = true) : D.append name bs = (D, 2) := by simp [DiskV.append, h]
theorem append_long (h : may name = true) (hf : kget D.files name = some f) (hl : (4194304 : Int) - f.length < bs.length) : D.append name bs = (D, 3) := by simp [DiskV.append, h, hf, hl]
theorem append_go (h : may name = true) (hf : kget D.files name = some f) (hl : ¬(4194304 : Int) - f.length < bs.length) : D.append name bs = D.pieces name bs := by simp [DiskV.append, h, hf, hl]
theorem append_full (h : may name = true) (hf : kget D.files name = none) (hl : D.files.length = 256) : D.append name bs = (D, 3) := by simp [DiskV.append, h, hf, hl]
theorem append_over (h : may name = true) (hf : kget D.files name = none) (hl : 4194304 < bs.length) : D.append name bs = (D, 3) := by simp [DiskV.append, h, hf, hl]
theorem append_none (h : may name = true) (hf : kget D.files name = none) (hl : ¬D.files.length = 256) (hb : bs = []) : D.append name bs = D.raw fun fs => kset fs name [] := by simp [DiskV.append, h, hf, hl, hb]
theorem append_new (h : may name = true) (hf : kget D.files name = none) (hl : ¬D.files.length = 256) (ho : ¬4194304 < bs.length) (hb : bs ≠ []) : D.append name bs = D.pieces name bs := by simp [DiskV.append, h, hf, hl, hb, ho]
theorem truncate_none {n : Int} (hf : kget D.files name = none) : D.truncate name n = (D, 4) := by simp [DiskV.truncate, hf]
theorem truncate_bad {n : Int} (hf : kget D.files name = some f) (h : n < 0 ∨ f.length < n) : D.truncate name n = (D, 2) := by simp [DiskV.truncate, hf, h]
theorem truncate_same {n : Int} (hf : kget D.files name = some f) (h : n = f.length) : D.truncate name n = (D, 0) := by simp [DiskV.truncate, hf, h]
theorem truncate_go {n : Int} (hf : kget D.files name = some f) (h : ¬(n < 0 ∨ f.length < n)) (h' : ¬n = f.length) : D.truncate name n = D.raw fun fs => kset fs name (f.take n.toNat) := by simp [DiskV.truncate, hf, h, h']
theorem rename_bad {dst : ByteArray} (h : ¬may dst = true) : D.rename name dst = (D, 2) := by simp [DiskV.rename, h]
theorem rename_none {dst : ByteArray} (h : may dst = true) (hf : kget D.files name = none) : D.rename name dst = (D, 4) := by simp [DiskV.rename, h, hf]
theorem rename_same {dst : ByteArray} (h : may dst = true) (hf : kget D.files name = some f) (e : name = dst) : D.rename name dst = (D, 0) := by subst e; simp [DiskV.rename, h, hf]
theorem rename_go {dst : ByteArray} (h : may dst = true) (hf : kget D.files name = some f) (e : ¬name = dst) : D.rename name dst = D.raw fun fs => kset (kdel fs name) dst f := by simp [DiskV.rename, h, hf, e]
theorem remove_none (hf : kget D.files name = none) : D.remove name = (D, 4) := by simp [DiskV.remove, hf]
theorem remove_go (hf : kget D.files name = some f) : D.remove name = D.raw fun fs => kdel fs name := by simp [DiskV.remove, hf]
theorem raw_stop {g : List (ByteArray × List UInt8) → List (ByteArray × List UInt8)} (h : D.stop = true) : D.raw g = (D, 6) := by simp [DiskV.raw, h]
theorem raw_go {g : List (ByteArray × List UInt8) → List (ByteArray × List UInt8)} (h : D.stop = false) : D.raw g = ({ D.went with files := g D.files }, 0) := by simp [DiskV.raw, h]
end

/-- The values own the files' bytes. -/
def valsR : List (ByteArray × Value) → List (ByteArray × List UInt8) → Hp
  | [], [] => fun _ => True
  | (k, v) :: r, (k', f) :: r' => fun h => k = k' ∧ all [OwnS 5 1 v (bcells f), valsR r r'] h
  | [], _ :: _ => fun _ => False
  | _ :: _, [] => fun _ => False
theorem vals_keys : ∀ {kvs : List (ByteArray × Value)} {fs : List (ByteArray × List UInt8)} {h : Part}, valsR kvs fs h → keys kvs = keys fs
  | [], [], _, _ => rfl
  | (k, v) :: r, (k', f) :: r', _, ⟨e, _, _, _, _, _, _, q⟩ => by
    obtain ⟨h1, h2, d, s1, s2, a, b⟩ := q
    simp only [keys, List.map_cons]
    have := vals_keys a
    simp only [keys] at this
    rw [e, this]
theorem Sat.vkeys {kvs : List (ByteArray × Value)} {fs : List (ByteArray × List UInt8)} {w : World} {L : List Hp} (n : Nat) (h : Sat w L) (e : L[n]? = some (valsR kvs fs)) : keys kvs = keys fs := by
  obtain ⟨g, s, a⟩ := SatH.get n h e
  exact vals_keys a
theorem len_of_keys {kvs : List (ByteArray × Value)} {fs : List (ByteArray × List UInt8)} (h : keys kvs = keys fs) : kvs.length = fs.length := by
  simpa [keys] using congrArg List.length h
theorem kget_of_keys : ∀ {kvs : List (ByteArray × Value)} {fs : List (ByteArray × List UInt8)}, keys kvs = keys fs → ∀ k, (kget kvs k).isSome = (kget fs k).isSome
  | [], [], _, k => rfl
  | (k0, v) :: r, (k', f) :: r', h, k => by
    simp only [keys, List.map_cons, List.cons.injEq] at h
    simp only [kget, h.1]
    split
    · rfl
    · exact kget_of_keys h.2 k
/-- One file is taken out. -/
theorem vals_take : ∀ {kvs : List (ByteArray × Value)} {fs : List (ByteArray × List UInt8)} {k : ByteArray} {f : List UInt8} {w : World} {R : List Hp}, Sat w (valsR kvs fs :: R) → kget fs k = some f →
    ∃ v, kget kvs k = some v ∧ Sat w (OwnS 5 1 v (bcells f) :: valsR (kdel kvs k) (kdel fs k) :: R)
  | [], [], k, f, w, R, _, e => by simp [kget] at e
  | (k0, v) :: r, (k', f') :: r', k, f, w, R, h, e => by
    obtain ⟨ek, h5⟩ := Sat.pure (p := k0 = k') (A := all [OwnS 5 1 v (bcells f'), valsR r r']) h
    clear h
    have h := h5.join
    clear h5
    subst ek
    simp only [List.cons_append, List.nil_append] at h
    simp only [kget] at e ⊢
    by_cases hk : k0 = k
    · subst hk
      simp only [if_true, Option.some.injEq] at e
      subst e
      exact ⟨v, by simp, by simpa [kdel] using h⟩
    · simp only [hk, if_false] at e ⊢
      obtain ⟨u, e1, h1⟩ := vals_take h.swap e
      refine ⟨u, e1, ?_⟩
      simp only [kdel, hk, if_false]
      have h2 : Sat w (OwnS 5 1 v (bcells f') :: valsR (kdel r k) (kdel r' k) :: OwnS 5 1 u (bcells f) :: R) := h1.perm (by
        refine List.Perm.trans (List.Perm.swap _ _ _) ?_
        refine List.Perm.trans (List.Perm.cons _ (List.Perm.swap _ _ _)) ?_
        refine List.Perm.trans (List.Perm.swap _ _ _) ?_
        exact List.Perm.cons _ (List.Perm.refl _))
      have h3 := Sat.part (L := [_, _]) h2
      exact (Sat.pure' rfl h3).swap
  | [], _ :: _, _, _, _, _, ⟨_, _, _, _, _, a, _⟩, _ => a.elim
  | _ :: _, [], _, _, _, _, ⟨_, _, _, _, _, a, _⟩, _ => a.elim
/-- One file is laid. -/
theorem vals_put : ∀ {kvs : List (ByteArray × Value)} {fs : List (ByteArray × List UInt8)} (k : ByteArray) {f : List UInt8} {v : Value} {w : World} {R : List Hp}, keys kvs = keys fs →
    Sat w (OwnS 5 1 v (bcells f) :: valsR (kdel kvs k) (kdel fs k) :: R) → Sat w (valsR (kset kvs k v) (kset fs k f) :: R)
  | [], [], k, f, v, w, R, _, h => by
    simp only [kdel] at h
    have h3 := Sat.part (L := [_, _]) h
    exact Sat.pure' rfl h3
  | (k0, u) :: r, (k', f') :: r', k, f, v, w, R, hk, h => by
    simp only [keys, List.map_cons, List.cons.injEq] at hk
    obtain ⟨e, hk⟩ := hk
    subst e
    by_cases hkk : k0 = k
    · subst hkk
      simp only [kdel, if_true] at h
      simp only [kset, if_true]
      exact Sat.pure' rfl (Sat.part (L := [_, _]) h)
    · simp only [kdel, hkk, if_false] at h
      simp only [kset, hkk, if_false]
      obtain ⟨_, h1⟩ := Sat.pure (p := k0 = k0) (A := all [OwnS 5 1 u (bcells f'), valsR (kdel r k) (kdel r' k)]) h.swap
      have h1 := h1.join
      simp only [List.cons_append, List.nil_append] at h1
      have h2 : Sat w (OwnS 5 1 v (bcells f) :: valsR (kdel r k) (kdel r' k) :: OwnS 5 1 u (bcells f') :: R) := h1.perm (by
        refine List.Perm.trans (List.Perm.swap _ _ _) ?_
        refine List.Perm.trans (List.Perm.cons _ (List.Perm.swap _ _ _)) ?_
        refine List.Perm.trans (List.Perm.swap _ _ _) ?_
        exact List.Perm.cons _ (List.Perm.refl _))
      have h3 := vals_put k hk h2
      exact Sat.pure' rfl (Sat.part (L := [_, _]) h3.swap)
/-- One file is thrown away. -/
theorem vals_del : ∀ {kvs : List (ByteArray × Value)} {fs : List (ByteArray × List UInt8)} (k : ByteArray) {w : World} {R : List Hp}, Sat w (valsR kvs fs :: R) → Sat w (valsR (kdel kvs k) (kdel fs k) :: R) := by
  intro kvs fs k w R h
  cases e : kget fs k with
  | some f => obtain ⟨v, _, h1⟩ := vals_take h e; exact h1.tail
  | none =>
    have hk := Sat.vkeys 0 h rfl
    have h1 : k ∉ keys fs := kget_none.1 e
    rw [kdel_none h1, kdel_none (hk ▸ h1)]
    exact h
/-- What a name has, in place. -/
theorem vals_at : ∀ {kvs : List (ByteArray × Value)} {fs : List (ByteArray × List UInt8)} {g : Part} (k : ByteArray), valsR kvs fs g →
    ∃ a len cap, (kget kvs k).getD (.slice none 0 0) = .slice a len cap ∧ len = ((kget fs k).getD []).length ∧ len ≤ cap ∧ cap ≤ 9223372036854775807 ∧ RowH g a (bcells ((kget fs k).getD []))
  | [], [], g, k, _ => ⟨none, 0, 0, rfl, rfl, Nat.le_refl _, by omega, .inl rfl⟩
  | (k0, v) :: r, (k', f) :: r', g, k, ⟨e, h1, h2, d, s1, s2, a, q⟩ => by
    subst e
    simp only [kget]
    by_cases hk : k0 = k
    · simp only [hk, if_true, Option.getD_some]
      obtain ⟨ad, len, cap, e, hl, hc, hm, ro⟩ := ownS_row a
      rw [bcells_len] at hl
      exact ⟨ad, len, cap, e, by omega, hc, hm, ro.mono s1⟩
    · simp only [hk, if_false]
      obtain ⟨g1, g2, _, t1, t2, a', _⟩ := q
      obtain ⟨ad, len, cap, e, hl, hc, hm, ro⟩ := vals_at k a'
      exact ⟨ad, len, cap, e, hl, hc, hm, ro.mono (t1.trans s2)⟩
  | [], _ :: _, _, _, h => h.elim
  | _ :: _, [], _, _, h => h.elim
theorem Sat.valsAt {kvs : List (ByteArray × Value)} {fs : List (ByteArray × List UInt8)} {w : World} {L : List Hp} (k : ByteArray) (n : Nat) (h : Sat w L) (hL : L[n]? = some (valsR kvs fs)) :
    ∃ a len cap, (kget kvs k).getD (.slice none 0 0) = .slice a len cap ∧ len = ((kget fs k).getD []).length ∧ len ≤ cap ∧ cap ≤ 9223372036854775807 ∧ RowW w a (bcells ((kget fs k).getD [])) := by
  obtain ⟨g, s, x⟩ := SatH.get n h hL
  obtain ⟨a, len, cap, e, hl, hc, hm, ro⟩ := vals_at k x
  exact ⟨a, len, cap, e, hl, hc, hm, ro.mono s⟩
theorem vals_row {kvs : List (ByteArray × Value)} {fs : List (ByteArray × List UInt8)} {k : ByteArray} {a : Option Addr} {l c : Nat} (e : (kget kvs k).getD (.slice none 0 0) = .slice a l c) (g : Part) (h : valsR kvs fs g) : RowH g a (bcells ((kget fs k).getD [])) := by
  obtain ⟨a', l', c', e', _, _, _, r⟩ := vals_at k h
  rw [e] at e'
  obtain ⟨rfl, _, _⟩ := Value.slice.inj e'
  exact r
/-- What a name has, nothing if there is none, is taken out. -/
theorem vals_out {kvs : List (ByteArray × Value)} {fs : List (ByteArray × List UInt8)} (k : ByteArray) {w : World} {R : List Hp} (h : Sat w (valsR kvs fs :: R)) :
    Sat w (OwnS 5 1 ((kget kvs k).getD (.slice none 0 0)) (bcells ((kget fs k).getD [])) :: valsR (kdel kvs k) (kdel fs k) :: R) := by
  cases e : kget fs k with
  | some f => obtain ⟨v, e1, h1⟩ := vals_take h e; rw [e1]; exact h1
  | none =>
    have e1 : kget kvs k = none := by
      have := kget_of_keys (Sat.vkeys 0 h rfl) k
      rw [e] at this
      simpa using this
    rw [e1]
    exact Sat.lone (ownS_nil 5 1 none) (vals_del k h)
theorem vals_set {kvs : List (ByteArray × Value)} {fs : List (ByteArray × List UInt8)} (k : ByteArray) {f : List UInt8} {v : Value} {w : World} {R : List Hp} (h : Sat w (OwnS 5 1 v (bcells f) :: valsR kvs fs :: R)) :
    Sat w (valsR (kset kvs k v) (kset fs k f) :: R) :=
  have e := Sat.vkeys 1 h rfl
  vals_put k e (vals_del k h.swap).swap
def diskR (b : Nat) (D : DiskV) : Hp := fun h => ∃ m kvs, all [pt b (.cells #[.map (some m), .int .i64 D.writes, .int .i64 D.left, .bool D.cut] 70), mapR strK m kvs, valsR kvs D.files] h
theorem diskR_open {b : Nat} {D : DiskV} {w : World} {R : List Hp} (h : Sat w (diskR b D :: R)) :
    ∃ m kvs, Sat w (pt b (.cells #[.map (some m), .int .i64 D.writes, .int .i64 D.left, .bool D.cut] 70) :: mapR strK m kvs :: valsR kvs D.files :: R) := by
  obtain ⟨h1, h2, d, s1, s2, ⟨m, kvs, a⟩, r⟩ := h
  exact ⟨m, kvs, Sat.join ⟨h1, h2, d, s1, s2, a, r⟩⟩
theorem diskR_close {b m : Nat} {D : DiskV} {kvs : List (ByteArray × Value)} {w : World} {R : List Hp} (h : Sat w (pt b (.cells #[.map (some m), .int .i64 D.writes, .int .i64 D.left, .bool D.cut] 70) :: mapR strK m kvs :: valsR kvs D.files :: R)) :
    Sat w (diskR b D :: R) := by
  obtain ⟨h1, h2, d, s1, s2, a, r⟩ := Sat.part (L := [_, _, _]) h
  exact ⟨h1, h2, d, s1, s2, ⟨m, kvs, a⟩, r⟩
theorem kget_mem {κ α : Type} [DecidableEq κ] : ∀ {l : List (κ × α)} {q : κ} {v : α}, (keys l).Nodup → (q, v) ∈ l → kget l q = some v
  | (k0, v0) :: r, q, v, hn, hm => by
    simp only [keys, List.map_cons, List.nodup_cons] at hn
    simp only [kget]
    rcases List.mem_cons.1 hm with h | h
    · obtain ⟨rfl, rfl⟩ := Prod.mk.inj h; simp
    · have : k0 ≠ q := by
        rintro rfl
        exact hn.1 (List.mem_map.2 ⟨_, h, rfl⟩)
      rw [if_neg this]
      exact kget_mem hn.2 h
theorem kget_some_mem {κ α : Type} [DecidableEq κ] {l : List (κ × α)} {q : κ} (h : q ∈ keys l) : ∃ v, kget l q = some v := by
  cases e : kget l q with
  | some v => exact ⟨v, rfl⟩
  | none => exact absurd h (kget_none.1 e)
theorem perm_step {α β : Type} {fs : List (ByteArray × α)} {left l1 l2 : List (ByteArray × β)} {q : ByteArray} {v : β} {f : α} {K : List ByteArray} (hp : (keys fs ++ keys left).Perm K) (hn : K.Nodup) (hl : left = l1 ++ (q, v) :: l2) :
    (keys (kset fs q f) ++ keys (l1 ++ l2)).Perm K := by
  subst hl
  have hn' := hp.nodup_iff.2 hn
  have hq : q ∉ keys fs := fun h => by
    have := (List.nodup_append.1 hn').2.2 q h q (by simp [keys])
    exact this rfl
  rw [keys_kset, if_neg hq]
  refine List.Perm.trans ?_ hp
  simp only [keys, List.map_append, List.map_cons, List.append_assoc, List.cons_append, List.nil_append]
  exact List.Perm.append_left _ List.perm_middle.symm
theorem copy_same {α : Type} {fs gs : List (ByteArray × α)} (hp : (keys fs).Perm (keys gs)) (h : ∀ k f, kget fs k = some f → kget gs k = some f) (k : ByteArray) : kget fs k = kget gs k := by
  by_cases hk : k ∈ keys fs
  · obtain ⟨v, e⟩ := kget_some_mem hk
    rw [e, h k v e]
  · rw [kget_none.2 hk, kget_none.2 (fun x => hk (hp.mem_iff.2 x))]
theorem sub_step {α : Type} {fs gs : List (ByteArray × α)} {q : ByteArray} {f : α} (hf : kget gs q = some f) (h : ∀ k f, kget fs k = some f → kget gs k = some f) (k : ByteArray) (f' : α) (e : kget (kset fs q f) k = some f') : kget gs k = some f' := by
  rw [kget_kset] at e
  by_cases hk : q = k
  · subst hk; simpa [hf] using e
  · rw [if_neg hk] at e; exact h k f' e
end Go.Proofs.YtmhpgdpegneejaaDoor
