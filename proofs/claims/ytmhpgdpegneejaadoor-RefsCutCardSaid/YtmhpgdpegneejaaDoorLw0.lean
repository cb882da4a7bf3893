import Derived.Test.YtmhpgdpegneejaaDoorRf0
import Derived.Test.YtmhpgdpegneejaaDoorSl9
set_option linter.unusedVariables false
set_option linter.unusedSimpArgs false
namespace Go.Proofs.YtmhpgdpegneejaaDoor
open Go Go.Proofs Go.Proofs.Slx

theorem nodup_kset {α : Type} {l : List (ByteArray × α)} (h : (keys l).Nodup) (k : ByteArray) (v : α) : (keys (kset l k v)).Nodup := by
  rw [keys_kset]
  split
  · exact h
  · rename_i hk
    rw [List.nodup_append]
    refine ⟨h, by simp, fun a ha b hb => ?_⟩
    simp only [List.mem_cons, List.not_mem_nil, or_false] at hb
    rintro rfl
    exact hk (hb ▸ ha)
theorem kget_filter {α : Type} {l : List (ByteArray × α)} (p : ByteArray → Bool) (k : ByteArray) : kget (l.filter fun x => p x.1) k = if p k then kget l k else none := by
  induction l with
  | nil => simp [kget]
  | cons x r ih =>
    obtain ⟨k0, v⟩ := x
    simp only [List.filter_cons, kget]
    by_cases e : k0 = k
    · subst e
      by_cases hp : p k0 = true
      · simp [hp, kget]
      · simp only [hp]
        rw [if_neg (by simp), ih]
        simp [hp]
    · by_cases hp : p k0 = true
      · simp only [hp, if_true, kget, if_neg e]; exact ih
      · simp only [hp, if_neg e]
        rw [if_neg (by simp)]
        exact ih
theorem keys_filter {α : Type} (l : List (ByteArray × α)) (p : ByteArray → Bool) : keys (l.filter fun x => p x.1) = (keys l).filter p := by
  simp only [keys, List.filter_map]
  rfl
theorem kdel_filter {α : Type} : ∀ {l : List (ByteArray × α)} (h : (keys l).Nodup) (k : ByteArray), kdel l k = l.filter fun x => off k x.1
  | [], _, _ => rfl
  | (k0, v) :: r, h, k => by
    simp only [keys, List.map_cons, List.nodup_cons] at h
    simp only [kdel, List.filter_cons, off]
    by_cases e : k0 = k
    · subst e
      simp only [if_true, decide_true, Bool.not_true, Bool.false_eq_true, if_false]
      symm
      rw [List.filter_eq_self]
      intro x hx
      have : x.1 ≠ k0 := fun e => h.1 (e ▸ List.mem_map.2 ⟨x, hx, rfl⟩)
      simp [this]
    · simp only [if_neg e, decide_false, e, Bool.not_false, if_true]
      rw [kdel_filter h.2 k]
      rfl
theorem nodup_kdel {α : Type} {l : List (ByteArray × α)} (h : (keys l).Nodup) (k : ByteArray) : (keys (kdel l k)).Nodup := by
  rw [kdel_filter h, keys_filter]
  exact h.filter _

/-- A disk and the document's say the same. -/
structure RelD (D W : DiskV) : Prop where
  writes : D.writes = W.writes
  left : D.left = W.left
  cut : D.cut = W.cut
  same : ∀ k, kget D.files k = kget W.files k
  nd : (keys D.files).Nodup
  nw : (keys W.files).Nodup
  many : D.files.length ≤ 256
  size : ∀ k f, kget D.files k = some f → f.length ≤ 4194304
  lef : W.cut = true → 0 ≤ W.left ∧ W.left ≤ 9223372036854775807
theorem keys_perm {α : Type} {l m : List (ByteArray × α)} (h : ∀ k, kget l k = kget m k) (n1 : (keys l).Nodup) (n2 : (keys m).Nodup) : (keys l).Perm (keys m) := by
  rw [List.perm_ext_iff_of_nodup n1 n2]
  intro k
  have a := kget_none (l := l) (k := k)
  have b := kget_none (l := m) (k := k)
  rw [h k] at a
  constructor
  · intro hk
    by_cases hm : k ∈ keys m
    · exact hm
    · exact absurd hk (a.1 (b.2 hm))
  · intro hk
    by_cases hm : k ∈ keys l
    · exact hm
    · exact absurd hk (b.1 (a.2 hm))
section
variable {D W : DiskV} (r : RelD D W)
include r
theorem RelD.perm : (keys D.files).Perm (keys W.files) := keys_perm r.same r.nd r.nw
theorem RelD.len : D.files.length = W.files.length := by
  have := r.perm.length_eq
  simpa [keys] using this
theorem RelD.stop : D.stop = W.stop := by simp [DiskV.stop, r.cut, r.left]
theorem RelD.lef' (hs : W.stop = false) : W.went.cut = true → 0 ≤ W.went.left ∧ W.went.left ≤ 9223372036854775807 := went_cut r.lef hs
theorem RelD.went (hs : W.stop = false) {fs gs : List (ByteArray × List UInt8)} (h1 : ∀ k, kget fs k = kget gs k) (h2 : (keys fs).Nodup) (h3 : (keys gs).Nodup) (h4 : fs.length ≤ 256) (h5 : ∀ k f, kget fs k = some f → f.length ≤ 4194304) :
    RelD { D.went with files := fs } { W.went with files := gs } where
  writes := by simp [DiskV.went, r.writes]
  left := by simp [DiskV.went, r.left, r.cut]
  cut := r.cut
  same := h1
  nd := h2
  nw := h3
  many := h4
  size := h5
  lef := r.lef' hs
theorem RelD.set (hs : W.stop = false) (k : ByteArray) {f : List UInt8} (hf : f.length ≤ 4194304) (h4 : (kset D.files k f).length ≤ 256) : RelD { D.went with files := kset D.files k f } { W.went with files := kset W.files k f } :=
  r.went hs (fun j => by rw [kget_kset, kget_kset, r.same]) (nodup_kset r.nd _ _) (nodup_kset r.nw _ _) h4 (fun j g e => by
    rw [kget_kset] at e
    split at e
    · simp only [Option.some.injEq] at e; subst e; exact hf
    · exact r.size j g e)
end
theorem kset_len_some {l : List (ByteArray × List UInt8)} {k : ByteArray} {f : List UInt8} (h : kget l k = some f) (u : List UInt8) : (kset l k u).length = l.length := by
  rw [kset_at u h]; simp
theorem kset_len_le (l : List (ByteArray × List UInt8)) (k : ByteArray) (u : List UInt8) : (kset l k u).length ≤ l.length + 1 := by
  cases e : kget l k with
  | some f => rw [kset_len_some e]; omega
  | none => rw [kset_new u e]; simp
theorem rel_pieces : ∀ (n : Nat) {D W : DiskV} (r : RelD D W) (name : ByteArray) {bs : List UInt8}, bs.length ≤ n → ((kget D.files name).getD []).length + bs.length ≤ 4194304 → (kget D.files name = none → D.files.length < 256) →
    (D.pieces name bs).2 = (W.pieces name bs).2 ∧ RelD (D.pieces name bs).1 (W.pieces name bs).1
  | 0, D, W, r, name, bs, hn, _, _ => by
    have : bs = [] := List.length_eq_zero_iff.1 (by omega)
    subst this
    rw [pieces_nil, pieces_nil]; exact ⟨rfl, r⟩
  | n + 1, D, W, r, name, bs, hn, hb, h256 => by
    by_cases h0 : bs = []
    · subst h0; rw [pieces_nil, pieces_nil]; exact ⟨rfl, r⟩
    · by_cases hs : W.stop = true
      · rw [pieces_stop h0 (r.stop.trans hs), pieces_stop h0 hs]; exact ⟨rfl, r⟩
      · have hs' : W.stop = false := by simpa using hs
        rw [pieces_go h0 (r.stop.trans hs'), pieces_go h0 hs', ← r.same]
        have hl := List.length_pos_iff.2 h0
        refine rel_pieces n (r.set hs' name (by simp only [List.length_append, List.length_take]; omega) ?_) name (by simp only [List.length_drop]; omega) (by
          rw [kget_kset]; simp only [if_true, Option.getD_some, List.length_append, List.length_take, List.length_drop]; omega) (fun e => by rw [kget_kset] at e; simp at e)
        cases e : kget D.files name with
        | some f => rw [kset_len_some e]; exact r.many
        | none => have := h256 e; have := kset_len_le D.files name ((kget D.files name).getD [] ++ bs.take 32); rw [e] at this; omega
section
variable {D W : DiskV} (r : RelD D W)
include r
theorem rel_append (name : ByteArray) (bs : List UInt8) : (D.append name bs).2 = (W.append name bs).2 ∧ RelD (D.append name bs).1 (W.append name bs).1 := by
  by_cases hm : may name = true
  · cases e : kget D.files name with
    | none =>
      have e' := (r.same name).symm.trans e
      by_cases h1 : D.files.length = 256
      · rw [append_full hm e h1, append_full hm e' (r.len ▸ h1)]; exact ⟨rfl, r⟩
      · have h1' : ¬W.files.length = 256 := fun x => h1 (r.len.trans x)
        have hmany := r.many
        by_cases h0 : bs = []
        · rw [append_none hm e h1 h0, append_none hm e' h1' h0]
          by_cases hs : W.stop = true
          · rw [raw_stop (r.stop.trans hs), raw_stop hs]; exact ⟨rfl, r⟩
          · have hs' : W.stop = false := by simpa using hs
            rw [raw_go (r.stop.trans hs'), raw_go hs']
            exact ⟨rfl, r.set hs' name (by simp) (by have := kset_len_le D.files name []; omega)⟩
        · by_cases h2 : 4194304 < bs.length
          · rw [append_over hm e h2, append_over hm e' h2]; exact ⟨rfl, r⟩
          · rw [append_new hm e h1 h2 h0, append_new hm e' h1' h2 h0]
            exact rel_pieces bs.length r name (Nat.le_refl _) (by rw [e]; simp; omega) (fun _ => by omega)
    | some f =>
      have e' := (r.same name).symm.trans e
      by_cases h2 : (4194304 : Int) - f.length < bs.length
      · rw [append_long hm e h2, append_long hm e' h2]; exact ⟨rfl, r⟩
      · rw [append_go hm e h2, append_go hm e' h2]
        exact rel_pieces bs.length r name (Nat.le_refl _) (by rw [e]; simp; omega) (fun x => by rw [e] at x; cases x)
  · rw [append_bad hm, append_bad hm]; exact ⟨rfl, r⟩
theorem rel_truncate (name : ByteArray) (n : Int) : (D.truncate name n).2 = (W.truncate name n).2 ∧ RelD (D.truncate name n).1 (W.truncate name n).1 := by
  cases e : kget D.files name with
  | none => rw [truncate_none e, truncate_none ((r.same name).symm.trans e)]; exact ⟨rfl, r⟩
  | some f =>
    have e' := (r.same name).symm.trans e
    by_cases h1 : n < 0 ∨ f.length < n
    · rw [truncate_bad e h1, truncate_bad e' h1]; exact ⟨rfl, r⟩
    · by_cases h2 : n = f.length
      · rw [truncate_same e h2, truncate_same e' h2]; exact ⟨rfl, r⟩
      · rw [truncate_go e h1 h2, truncate_go e' h1 h2]
        by_cases hs : W.stop = true
        · rw [raw_stop (r.stop.trans hs), raw_stop hs]; exact ⟨rfl, r⟩
        · have hs' : W.stop = false := by simpa using hs
          rw [raw_go (r.stop.trans hs'), raw_go hs']
          have := r.size name f e
          exact ⟨rfl, r.set hs' name (by simp only [List.length_take]; omega) (by rw [kset_len_some e]; exact r.many)⟩
theorem rel_remove (name : ByteArray) : (D.remove name).2 = (W.rremove name).2 ∧ RelD (D.remove name).1 (W.rremove name).1 := by
  cases e : kget D.files name with
  | none => rw [remove_none e, rremove_none ((r.same name).symm.trans e)]; exact ⟨rfl, r⟩
  | some f =>
    have e' := (r.same name).symm.trans e
    rw [remove_go e, rremove_go e']
    by_cases hs : W.stop = true
    · rw [raw_stop (r.stop.trans hs), raw_stop hs]; exact ⟨rfl, r⟩
    · have hs' : W.stop = false := by simpa using hs
      rw [raw_go (r.stop.trans hs'), raw_go hs', kdel_filter r.nd]
      refine ⟨rfl, r.went hs' (fun k => by rw [kget_filter, kget_filter, r.same]) (by rw [keys_filter]; exact r.nd.filter _) (by rw [keys_filter]; exact r.nw.filter _) (Nat.le_trans (List.length_filter_le _ _) r.many) (fun k f' h => ?_)⟩
      rw [kget_filter] at h
      split at h
      · exact r.size k f' h
      · cases h
theorem rel_cut {n : Int} (h0 : ¬n < 0) (h1 : n ≤ 9223372036854775807) : RelD (D.setCut n) { W with left := n, cut := true } := by
  rw [DiskV.setCut, if_neg h0]
  exact ⟨r.writes, rfl, rfl, r.same, r.nd, r.nw, r.many, r.size, fun _ => ⟨Int.not_lt.1 h0, h1⟩⟩
theorem rel_mend : RelD D.mend { W with left := 0, cut := false } :=
  ⟨r.writes, rfl, rfl, r.same, r.nd, r.nw, r.many, r.size, fun e => by cases e⟩
theorem rel_copy {fs : List (ByteArray × List UInt8)} (hp : (keys fs).Perm (keys D.files)) (hs : ∀ k, kget fs k = kget D.files k) : RelD ⟨fs, 0, 0, false⟩ ⟨W.files, 0, 0, false⟩ :=
  ⟨rfl, rfl, rfl, fun k => (hs k).trans (r.same k), hp.nodup_iff.2 r.nd, r.nw, by
    have := hp.length_eq
    simp only [keys, List.length_map] at this
    rw [this]; exact r.many, fun k f e => r.size k f ((hs k) ▸ e), fun e => by cases e⟩
end
theorem rel_new : RelD ⟨[], 0, 0, false⟩ ⟨[], 0, 0, false⟩ :=
  ⟨rfl, rfl, rfl, fun _ => rfl, by simp [keys], by simp [keys], by simp, fun k f e => by simp [kget] at e, fun e => by cases e⟩
theorem kdel_len {α : Type} : ∀ {l : List (ByteArray × α)} {k : ByteArray} {v : α}, kget l k = some v → (kdel l k).length + 1 = l.length
  | [], _, _, h => by simp [kget] at h
  | (k0, v0) :: r, k, v, h => by
    simp only [kget] at h
    simp only [kdel]
    split
    · simp
    · rename_i e
      rw [if_neg e] at h
      simp [kdel_len h]
theorem kget_ren {α : Type} : ∀ {g : List (ByteArray × α)} {src dst : ByteArray} {f : α}, (keys g).Nodup → dst ∉ keys g → kget g src = some f → ∀ k, kget (g.set (pos g src) (dst, f)) k = if k = dst then some f else if k = src then none else kget g k
  | [], _, _, _, _, _, h, _ => by simp [kget] at h
  | (k0, v0) :: r, src, dst, f, hn, hd, h, k => by
    simp only [keys, List.map_cons, List.nodup_cons, List.mem_cons, not_or] at hn hd
    simp only [kget] at h
    by_cases e : k0 = src
    · subst e
      simp only [pos, if_true, List.set_cons_zero, kget]
      by_cases h1 : dst = k
      · subst h1; simp
      · rw [if_neg h1, if_neg (fun x => h1 x.symm)]
        by_cases h2 : k = k0
        · subst h2
          simp only [if_true]
          exact kget_none.2 hn.1
        · rw [if_neg h2, if_neg (fun x => h2 x.symm)]
    · rw [if_neg e] at h
      simp only [pos, if_neg e, List.set_cons_succ, kget]
      by_cases h1 : k0 = k
      · subst h1
        rw [if_pos rfl, if_neg (fun x => hd.1 x.symm), if_neg e, if_pos rfl]
      · rw [if_neg h1, kget_ren hn.2 hd.2 h k, if_neg h1]
theorem nodup_ren {α : Type} : ∀ {g : List (ByteArray × α)} {dst : ByteArray} {f : α} (i : Nat), (keys g).Nodup → dst ∉ keys g → (keys (g.set i (dst, f))).Nodup
  | [], _, _, _, _, _ => by simp [keys]
  | (k0, v0) :: r, dst, f, 0, hn, hd => by
    simp only [keys, List.map_cons, List.nodup_cons, List.mem_cons, not_or] at hn hd
    simp only [List.set_cons_zero, keys, List.map_cons, List.nodup_cons]
    exact ⟨hd.2, hn.2⟩
  | (k0, v0) :: r, dst, f, i + 1, hn, hd => by
    simp only [keys, List.map_cons, List.nodup_cons, List.mem_cons, not_or] at hn hd
    simp only [List.set_cons_succ, keys, List.map_cons, List.nodup_cons]
    refine ⟨fun hm => ?_, nodup_ren i hn.2 hd.2⟩
    obtain ⟨x, hx, e⟩ := List.mem_map.1 hm
    rcases List.mem_or_eq_of_mem_set hx with h | h
    · exact hn.1 (e ▸ List.mem_map.2 ⟨x, h, rfl⟩)
    · subst h; exact hd.1 e
theorem off_self (k : ByteArray) : off k k = false := by simp [off]
theorem off_ne {k j : ByteArray} (h : ¬j = k) : off k j = true := by simp [off, h]
theorem rel_rename {D W : DiskV} (r : RelD D W) (src dst : ByteArray) : (D.rename src dst).2 = (W.rrename src dst).2 ∧ RelD (D.rename src dst).1 (W.rrename src dst).1 := by
  by_cases hm : may dst = true
  · cases e : kget D.files src with
    | none => rw [rename_none hm e, rrename_none hm ((r.same src).symm.trans e)]; exact ⟨rfl, r⟩
    | some f =>
      have e' := (r.same src).symm.trans e
      by_cases h1 : src = dst
      · rw [rename_same hm e h1, rrename_same hm e' h1]; exact ⟨rfl, r⟩
      · rw [rename_go hm e h1, rrename_go hm e' h1]
        by_cases hs : W.stop = true
        · rw [raw_stop (r.stop.trans hs), raw_stop hs]; exact ⟨rfl, r⟩
        · have hs' : W.stop = false := by simpa using hs
          rw [raw_go (r.stop.trans hs'), raw_go hs']
          have hg := vals_keep h1 e'
          have hng : (keys (W.files.filter fun x => off dst x.1)).Nodup := by rw [keys_filter]; exact r.nw.filter _
          have hdg : dst ∉ keys (W.files.filter fun x => off dst x.1) := by rw [keys_filter]; simp [off_self]
          refine ⟨rfl, r.went hs' (fun k => ?_) (nodup_kset (nodup_kdel r.nd _) _ _) (nodup_ren _ hng hdg) ?_ (fun k f' h => ?_)⟩
          · rw [kget_kset, kget_ren hng hdg hg]
            by_cases h2 : dst = k
            · subst h2; simp
            · rw [if_neg h2, if_neg (fun x => h2 x.symm), kget_kdel r.nd]
              by_cases h3 : src = k
              · subst h3; simp
              · rw [if_neg h3, if_neg (fun x => h3 x.symm), kget_filter, off_ne (fun x => h2 x.symm), if_pos rfl, r.same]
          · have a := kdel_len e
            have b := kset_len_le (kdel D.files src) dst f
            have c := r.many
            omega
          · rw [kget_kset] at h
            split at h
            · simp only [Option.some.injEq] at h; subst h; exact r.size src f e
            · rw [kget_kdel r.nd] at h
              split at h
              · cases h
              · exact r.size k f' h
  · rw [rename_bad hm, rrename_bad hm]; exact ⟨rfl, r⟩
def nmA : ByteArray := ByteArray.mk #[97]
theorem wake_append : DiskV.append ⟨[], 0, 0, false⟩ nmA [1, 2] = (⟨[(nmA, [1, 2])], 1, 0, false⟩, 0) := by
  have hm : may nmA = true := by decide
  rw [append_new hm rfl (by simp) (by simp) (by simp), pieces_go (by simp) rfl]
  simp only [List.drop, pieces_nil]
  rfl
theorem wake_get : kget [(nmA, ([1, 2] : List UInt8))] nmA = some [1, 2] := by simp [kget]
theorem wake_ok : ∀ f, kget [(nmA, ([1, 2] : List UInt8))] nmA = some f → f.length ≤ 140737488355328 := by
  intro f e
  rw [wake_get] at e
  simp only [Option.some.injEq] at e
  subst e
  decide
theorem row_pt {b : Nat} {cs : Array Value} {E : TypeId} {fr : Nat × Nat} {g : Part} (h : pt b (.cells cs E fr) g) : RowH g (some ⟨b, 0, none⟩) cs.toList :=
  .inr ⟨b, 0, cs, E, fr, rfl, h, fun i v hv => by simpa using hv⟩
/-- One of the script's operations, as it lies in memory. -/
structure OpV where
  kind : Int
  name : ByteArray
  to : ByteArray
  n : Int
  ba : Option Addr
  bn : Nat
  bcap : Nat
  bytes : List UInt8
def ocell (o : OpV) : List Value := [.int .i64 o.kind, .string o.name, .string o.to, .int .i64 o.n, .slice o.ba o.bn o.bcap]
def ocells (l : List OpV) : List Value := l.flatMap ocell
theorem ocells_len : ∀ (l : List OpV), (ocells l).length = l.length * 5
  | [] => rfl
  | o :: r => by
    have := ocells_len r
    simp only [ocells, List.flatMap_cons, List.length_append, List.length_cons] at this ⊢
    simp only [ocell, List.length_cons, List.length_nil]
    omega
theorem ocells_snoc (l : List OpV) (o : OpV) : ocells (l ++ [o]) = ocells l ++ ocell o := by simp [ocells]
theorem ocells_get : ∀ {l : List OpV} {i : Nat} {o : OpV}, l[i]? = some o → ∀ (j : Nat) (v : Value), (ocell o)[j]? = some v → (ocells l)[i * 5 + j]? = some v
  | [], _, _, h => by simp at h
  | q :: r, 0, o, h => by
    simp at h; subst h
    intro j v hj
    simp only [ocells, List.flatMap_cons, Nat.zero_mul, Nat.zero_add]
    rw [List.getElem?_append_left (List.getElem?_eq_some_iff.1 hj).1, hj]
  | q :: r, i + 1, o, h => by
    intro j v hj
    have := ocells_get (l := r) (i := i) (by simpa using h) j v hj
    simp only [ocells, List.flatMap_cons] at this ⊢
    rw [List.getElem?_append_right (by simp only [ocell, List.length_cons, List.length_nil]; omega)]
    rw [show (i + 1) * 5 + j - (ocell q).length = i * 5 + j by simp only [ocell, List.length_cons, List.length_nil]; omega]
    exact this
structure OkOp (O : Hp) (o : OpV) : Prop where
  len : o.bn = o.bytes.length
  cap : o.bn ≤ o.bcap
  max : o.bcap ≤ 9223372036854775807
  room : o.bytes.length ≤ 140737488351232
  nm : o.name.size ≤ 9223372036854775807
  tm : o.to.size ≤ 9223372036854775807
  lo : -9223372036854775808 ≤ o.n
  hi : o.n ≤ 9223372036854775807
  klo : -9223372036854775808 ≤ o.kind
  khi : o.kind ≤ 9223372036854775807
  row : ∀ g, O g → RowH g o.ba (bcells o.bytes)
def cutOp (o : OpV) : OpV := if o.bytes.length ≤ 4194304 then { o with bn := (o.bytes.take 300).length, bytes := o.bytes.take 300 } else o
theorem cutOp_le {o : OpV} (h : o.bytes.length ≤ 4194304) : cutOp o = { o with bn := (o.bytes.take 300).length, bytes := o.bytes.take 300 } := if_pos h
theorem cutOp_gt {o : OpV} (h : ¬o.bytes.length ≤ 4194304) : cutOp o = o := if_neg h
theorem OkOp.cut {O : Hp} {o : OpV} (h : OkOp O o) : OkOp O (cutOp o) := by
  by_cases hl : o.bytes.length ≤ 4194304
  · rw [cutOp_le hl]
    exact ⟨rfl, by have := h.cap; have := h.len; simp only [List.length_take]; omega, h.max, by have := h.room; simp only [List.length_take]; omega, h.nm, h.tm, h.lo, h.hi, h.klo, h.khi, fun g x => row_take 300 (h.row g x)⟩
  · rw [cutOp_gt hl]; exact h
theorem cut_op {C : Array Value} {p : Nat} {l : List OpV} {i : Nat} {o : OpV} (hC : ∀ (i : Nat) (v : Value), (ocells l)[i]? = some v → C[p + i]? = some v) (h : l[i]? = some o) :
    cutL C (p + i * 5) 5 = some [.int .i64 o.kind, .string o.name, .string o.to, .int .i64 o.n, .slice o.ba o.bn o.bcap] := by
  have key := fun j v hj => hC _ _ (ocells_get h j v hj)
  have k0 := key 0 _ rfl
  have k1 := key 1 _ rfl
  have k2 := key 2 _ rfl
  have k3 := key 3 _ rfl
  have k4 := key 4 _ rfl
  simp only [cutL, show p + i * 5 = p + (i * 5 + 0) by omega, k0, show p + (i * 5 + 0) + 1 = p + (i * 5 + 1) by omega, k1, show p + (i * 5 + 1) + 1 = p + (i * 5 + 2) by omega, k2, show p + (i * 5 + 2) + 1 = p + (i * 5 + 3) by omega, k3,
    show p + (i * 5 + 3) + 1 = p + (i * 5 + 4) by omega, k4, Option.map_some]
theorem op_at {w : World} {L : List Hp} {O : Hp} {a : Option Addr} {l : List OpV} {i : Nat} (n : Nat) (h : Sat w L) (hL : L[n]? = some O) (hO : ∀ g, O g → RowH g a (ocells l)) (hi : i < l.length) :
    ∃ bb p C E fr o, a = some ⟨bb, p, none⟩ ∧ l[i]? = some o ∧ w.heap[bb]? = some (.cells C E fr) ∧ cutL C (p + i * 5) 5 = some [.int .i64 o.kind, .string o.name, .string o.to, .int .i64 o.n, .slice o.ba o.bn o.bcap] := by
  obtain ⟨g, s, x⟩ := SatH.get n h hL
  obtain ⟨o, ho⟩ : ∃ o, l[i]? = some o := ⟨_, List.getElem?_eq_getElem hi⟩
  rcases hO g x with e | ⟨b, p, C, E, fr, e, hb, hC⟩
  · have := ocells_len l
    rw [e] at this
    simp at this
    omega
  · exact ⟨b, p, C, E, fr, o, e, ho, s _ _ hb, cut_op hC ho⟩
theorem map_snoc {α β : Type} (f : α → β) {l : List α} {i : Nat} {x : α} (h : l[i]? = some x) : (l.take (i + 1)).map f = (l.take i).map f ++ [f x] := by
  rw [List.take_add_one, h, List.map_append]; rfl
theorem RelD.small {D W : DiskV} (r : RelD D W) (k : ByteArray) : ∀ f, kget D.files k = some f → f.length ≤ 140737488355328 := fun f e => by have := r.size k f e; omega
theorem bcells_set (s : List UInt8) (i : Nat) (c : UInt8) : bcells (s.set i c) = (bcells s).set i (.int .u8 c.toNat) := by simp [bcells, List.map_set]
theorem vals_roww {w : World} {L : List Hp} {gs : List (ByteArray × Value)} {fs : List (ByteArray × List UInt8)} {k : ByteArray} {a : Option Addr} {l c : Nat} {f : List UInt8} (n : Nat) (h : Sat w L) (hL : L[n]? = some (valsR gs fs)) (e : kget gs k = some (.slice a l c)) (hf : kget fs k = some f) : RowW w a (bcells f) := by
  obtain ⟨g, s, x⟩ := SatH.get n h hL
  have := vals_row (k := k) (a := a) (l := l) (c := c) (by rw [e]; rfl) g x
  rw [hf] at this
  exact this.mono s
theorem RowOk.row {E sz len cap b : Nat} {C : Array Value} {fr : Nat × Nat} {vs : List Value} {w : World} (r : RowOk E sz len cap C fr vs) (hb : w.heap[b]? = some (.cells C E fr)) : RowW w (some ⟨b, 0, none⟩) vs :=
  .inr ⟨b, 0, C, E, fr, rfl, hb, fun i v hv => by
    rw [Nat.zero_add, r.get i (by rw [← r.lenv]; exact (List.getElem?_eq_some_iff.1 hv).1)]; exact hv⟩
theorem row_head {h : Part} {a : Option Addr} {x y : List UInt8} (r : RowH h a (bcells (x ++ y))) : RowH h a (bcells x) := by
  have := row_take x.length r
  rwa [List.take_left'  rfl] at this
theorem own_head {E sz : Nat} {a : Option Addr} {n c : Nat} {x y : List UInt8} (g : Part) (h : OwnS E sz (.slice a n c) (bcells (x ++ y)) g) : RowH g a (bcells x) := by
  obtain ⟨a', n', c', e, _, _, _, r⟩ := ownS_row h
  cases e
  exact row_head r
theorem room_seven (x : List UInt8) : (bcells (x ++ [7, 7, 7]))[x.length]? = some (.int .u8 7) := by
  simp only [bcells, List.map_append]
  rw [List.getElem?_append_right (by simp)]
  simp
theorem u64_nonneg (n : Int) : 0 ≤ IntKind.u64.wrap n := by
  simp only [IntKind.wrap, IntKind.bits, IntKind.signed]
  exact Int.emod_nonneg _ (by decide)
/-! names, rising -/
def scells (ss : List ByteArray) : List Value := ss.map Value.string
theorem scells_len (ss : List ByteArray) : (scells ss).length = ss.length * 1 := by simp [scells]
theorem scells_set (s : List ByteArray) (i : Nat) (c : ByteArray) : scells (s.set i c) = (scells s).set i (.string c) := by simp [scells, List.map_set]
theorem scells_get {s : List ByteArray} {i : Nat} {c : ByteArray} (h : s[i]? = some c) : (scells s)[i]? = some (.string c) := by simp [scells, h]
def sortS (ss : List ByteArray) : List ByteArray := ((ss.map (·.data.toList)).mergeSort fun x y => decide (x ≤ y)).map fun l => ⟨l.toArray⟩
theorem sortS_perm {l m : List ByteArray} (h : l.Perm m) : sortS l = sortS m := by
  unfold sortS
  congr 1
  have tr : ∀ a b c : List UInt8, decide (a ≤ b) = true → decide (b ≤ c) = true → decide (a ≤ c) = true := fun a b c x y => by
    simp only [decide_eq_true_eq] at *
    exact List.le_trans x y
  have tot : ∀ a b : List UInt8, (decide (a ≤ b) || decide (b ≤ a)) = true := fun a b => by
    simp only [Bool.or_eq_true, decide_eq_true_eq]
    exact List.le_total a b
  refine List.Perm.eq_of_pairwise (le := fun a b => decide (a ≤ b) = true) (fun a b _ _ x y => ?_) (List.pairwise_mergeSort tr tot _) (List.pairwise_mergeSort tr tot _) ((List.mergeSort_perm _ _).trans ((h.map _).trans (List.mergeSort_perm _ _).symm))
  simp only [decide_eq_true_eq] at x y
  exact List.le_antisymm x y
theorem sortS_len (l : List ByteArray) : (sortS l).length = l.length := by simp [sortS]
theorem keys_len {α : Type} (l : List (ByteArray × α)) : (keys l).length = l.length := by simp [keys]
theorem rel_left {D W : DiskV} (r : RelD D W) : (D.cut == decide (0 ≤ (if W.cut then W.left else -1))) = true := by
  rw [r.cut]
  cases e : W.cut with
  | true => have := (r.lef e).1; simp [this]
  | false => simp
theorem rel_max {D W : DiskV} (r : RelD D W) : (if D.cut then D.left else 0) = max (if W.cut then W.left else -1) 0 := by
  rw [r.cut, r.left]
  cases e : W.cut with
  | true => have := (r.lef e).1; simp only [if_true]; omega
  | false => simp only [Bool.false_eq_true, if_false]; decide
theorem ref_small {D W : DiskV} (r : RelD D W) (i : Nat) (p : ByteArray × List UInt8) (h : W.files[i]? = some p) : p.2.length ≤ 140737488355328 := by
  have hm := List.mem_of_getElem? h
  have e := kget_mem (q := p.1) (v := p.2) r.nw hm
  have := r.size p.1 p.2 ((r.same p.1).trans e)
  omega
theorem own_rows {E sz : Nat} {a : Option Addr} {n c : Nat} {vs : List Value} (g : Part) (h : OwnS E sz (.slice a n c) vs g) : RowH g a vs := by
  obtain ⟨a', n', c', e, _, _, _, r⟩ := ownS_row h
  cases e
  exact r
theorem scells_snoc (l : List ByteArray) (x : ByteArray) : scells (l ++ [x]) = scells l ++ [.string x] := by simp [scells]
theorem keys_snoc {α : Type} {l : List (ByteArray × α)} {i : Nat} {k : ByteArray} {v : α} (h : l[i]? = some (k, v)) : keys (l.take (i + 1)) = keys (l.take i) ++ [k] := by
  rw [keys, List.take_add_one, h, List.map_append]; rfl
/-- A variable that holds names that are gathered. -/
def sbox (t : Nat) (done : List ByteArray) : Hp := fun g => ∃ a c, all [pt t (.cells #[.slice a done.length c] 77), OwnS 9 1 (.slice a done.length c) (scells done)] g
theorem sbox_open {t : Nat} {done : List ByteArray} {w : World} {R : List Hp} (h : Sat w (sbox t done :: R)) : ∃ a c, Sat w (pt t (.cells #[.slice a done.length c] 77) :: OwnS 9 1 (.slice a done.length c) (scells done) :: R) := by
  obtain ⟨h1, h2, d, s1, s2, ⟨a, c, x⟩, r⟩ := h
  exact ⟨a, c, Sat.join ⟨h1, h2, d, s1, s2, x, r⟩⟩
theorem sbox_close {t c : Nat} {a : Option Addr} {done : List ByteArray} {w : World} {R : List Hp} (h : Sat w (pt t (.cells #[.slice a done.length c] 77) :: OwnS 9 1 (.slice a done.length c) (scells done) :: R)) : Sat w (sbox t done :: R) := by
  obtain ⟨h1, h2, d, s1, s2, x, r⟩ := Sat.part (L := [_, _]) h
  exact ⟨h1, h2, d, s1, s2, ⟨a, c, x⟩, r⟩
theorem perm_mid {β : Type} {done K : List ByteArray} {left l1 l2 : List (ByteArray × β)} {q : ByteArray} {v : β} (hp : (done ++ keys left).Perm K) (hl : left = l1 ++ (q, v) :: l2) : (done ++ q :: keys (l1 ++ l2)).Perm K := by
  subst hl
  refine List.Perm.trans ?_ hp
  simp only [keys, List.map_append, List.map_cons]
  exact List.Perm.append_left _ List.perm_middle.symm
end Go.Proofs.YtmhpgdpegneejaaDoor
