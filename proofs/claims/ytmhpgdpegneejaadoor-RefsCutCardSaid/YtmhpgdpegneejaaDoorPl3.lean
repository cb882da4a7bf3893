import Derived.Test.YtmhpgdpegneejaaDoorPl2
set_option linter.unusedVariables false
set_option linter.unusedSimpArgs false
namespace Go.Proofs.YtmhpgdpegneejaaDoor
open Go Go.Proofs Go.Proofs.Slx
/-! ### Refs on a disk, in order -/
def fileB (D : DiskV) : List UInt8 := (kget D.files nmRefs).getD []
structure Good (V : RefV) (m : Nat) : Prop where
  jcut : V.jrn.cut = false
  file : jparse (fileB V.disk) = (V.jrn.recs, V.jrn.size, false)
  size : V.jrn.size = (fileB V.disk).length
  opn : ∃ K, openL [] V.jrn.recs = some K ∧ Eqv K V.ids
  len : V.ids.length ≤ 64
  fl : ∀ k, k ∈ keys V.disk.files → k = nmRefs
  fnd : (keys V.disk.files).Nodup
  bnd : (fileB V.disk).length ≤ m
  nm : ∀ k n, kget V.ids k = some n → mayE k = 0 ∧ n ≠ 0 ∧ n < 18446744073709551616
theorem Good.nd {V : RefV} {m : Nat} (h : Good V m) : (keys V.ids).Nodup := by
  obtain ⟨K, _, e⟩ := h.opn
  exact e.2.2
theorem Good.fl1 {V : RefV} {m : Nat} (h : Good V m) : V.disk.files.length ≤ 1 := by
  have h1 : (keys V.disk.files).length = V.disk.files.length := by simp [keys]
  match hk : keys V.disk.files, h.fnd, h.fl with
  | [], _, _ => rw [hk] at h1; simp at h1; omega
  | [_], _, _ => rw [hk] at h1; simp at h1; omega
  | a :: b :: r, hn, hf =>
    have e1 := hf a List.mem_cons_self
    have e2 := hf b (List.mem_cons_of_mem _ List.mem_cons_self)
    rw [List.nodup_cons] at hn
    exact absurd (by rw [e1, e2]; exact List.mem_cons_self) hn.1
theorem Good.recs {V : RefV} {m : Nat} (h : Good V m) : V.jrn.recs.flatten.length ≤ m ∧ V.jrn.recs.length ≤ m ∧ V.jrn.size ≤ m := by
  have := jparse_len _ _ (Nat.le_refl (fileB V.disk).length)
  rw [h.file] at this
  simp only at this
  have := h.bnd
  have := h.size
  omega
theorem Good.more {V : RefV} {m n : Nat} (h : Good V m) (hn : m ≤ n) : Good V n :=
  ⟨h.jcut, h.file, h.size, h.opn, h.len, h.fl, h.fnd, Nat.le_trans h.bnd hn, h.nm⟩
theorem chk_ne (s : ByteArray) : (chk s).1 = 0 ∨ (chk s).1 = 3 ∨ (chk s).1 = 140 := by
  simp only [chk]
  repeat' split
  all_goals simp
theorem pthL_ne : ∀ (l : List ByteArray) (i : Nat) (a : Int), (pthL i a l).1 = 0 ∨ (pthL i a l).1 = 3 ∨ (pthL i a l).1 = 140
  | [], i, a => .inl rfl
  | n :: r, i, a => by
    simp only [pthL]
    split
    · exact .inr (.inl rfl)
    · split
      · exact pthL_ne r _ _
      · exact chk_ne n
theorem mayE_ne (s : ByteArray) : ¬mayE s = 6 := by
  have : (pathE s).1 = 0 ∨ (pathE s).1 = 3 ∨ (pathE s).1 = 140 := by
    simp only [pathE]
    split
    · exact .inr (.inl rfl)
    · exact pthL_ne _ _ _
  simp only [mayE]
  split
  · split <;> decide
  · omega
theorem setL_ne {I : Ids} : ∀ (l : Ids) (met : List ByteArray) (ch : Ids) (sz : Int) (bs : List UInt8), ¬(setL I l met ch sz bs).1 = 6
  | [], met, ch, sz, bs => by simp [setL]
  | c :: r, met, ch, sz, bs => by
    simp only [setL]
    split
    · exact mayE_ne _
    · split
      · simp
      · split
        · simp
        · split
          · exact setL_ne r _ _ _ _
          · exact setL_ne r _ _ _ _
theorem setL_chlen {I : Ids} : ∀ (l : Ids) (met : List ByteArray) (ch : Ids) (sz : Int) (bs : List UInt8), (setL I l met ch sz bs).2.1.length ≤ ch.length + l.length
  | [], met, ch, sz, bs => by simp [setL]
  | c :: r, met, ch, sz, bs => by
    have hk := ksetL_len ch c.1 c.2
    simp only [setL]
    split
    · simp
    · split
      · simp
      · split
        · simp
        · split
          · have := setL_chlen (I := I) r (met ++ [c.1]) ch sz bs
            simp only [List.length_cons]; omega
          · have := setL_chlen (I := I) r (met ++ [c.1]) (kset ch c.1 c.2) (if c.2 = 0 then sz - 1 else if (kget I c.1).isSome = true then sz else sz + 1) (bs ++ putT c.1 ++ putW c.2)
            simp only [List.length_cons]; omega
/-- What comes of changes: the error, the changes. -/
def outE (I : Ids) (l : Ids) : Int := if (setL I l [] [] I.length []).1 = 0 then (if 64 < (setL I l [] [] I.length []).2.2.1 then 3 else 0) else (setL I l [] [] I.length []).1
def outC (I : Ids) (l : Ids) : Ids := (setL I l [] [] I.length []).2.1
theorem out_congr {I K : Ids} (e : Eqv K I) (l : Ids) : outE K l = outE I l ∧ outC K l = outC I l := by
  have := setL_congr e.1 l [] [] I.length []
  rw [← e.len] at this
  constructor
  · simp only [outE, ← e.len, this]
  · simp only [outC, ← e.len, this]
theorem outE_ne (I l : Ids) : ¬outE I l = 6 := by
  simp only [outE]
  split
  · split <;> decide
  · exact setL_ne l _ _ _ _
theorem out_keeps {I l : Ids} (hI : (keys I).Nodup) (hl : ∀ x, x ∈ l → x.2 < 18446744073709551616) (h : outE I l = 0) :
    Chg I (outC I l) ∧ (layI I (outC I l)).length ≤ 64 ∧ (∀ c, c ∈ outC I l → ¬(kget I c.1).getD 0 = c.2) ∧ (outC I l).length ≤ l.length ∧
    setL I l [] [] I.length [] = (0, outC I l, ((layI I (outC I l)).length : Int), encC (outC I l)) := by
  have h1 : (setL I l [] [] I.length []).1 = 0 := by
    by_cases x : (setL I l [] [] I.length []).1 = 0
    · exact x
    · simp only [outE, if_neg x] at h
      exact absurd h x
  obtain ⟨met', hs⟩ := setL_keeps hI l [] [] I.length [] hl SetS.start h1
  have hc := setL_chlen (I := I) l [] [] I.length []
  simp only [outE, if_pos h1] at h
  have h2 : ¬64 < (setL I l [] [] I.length []).2.2.1 := fun x => by simp [if_pos x] at h
  rw [hs.size] at h2
  refine ⟨hs.chg, by unfold outC; omega, hs.diff, by unfold outC; simpa using hc, ?_⟩
  unfold outC
  rw [← hs.size, ← hs.enc, ← h1]
theorem encC_len : ∀ (ch : Ids), (∀ c, c ∈ ch → c.1.size ≤ 200) → (encC ch).length ≤ ch.length * 219
  | [], h => by simp [encC]
  | c :: r, h => by
    have ih := encC_len r (fun d hd => h d (List.mem_cons_of_mem _ hd))
    have hc := h c List.mem_cons_self
    have hu := putU_len10 (x := c.1.size) (by omega)
    have e9 : c.1.data.toList.length = c.1.size := rfl
    simp only [encC, List.flatMap_cons, List.length_append, putT, putW_len, List.length_cons] at ih ⊢
    omega
theorem payC_len {I ch : Ids} (h : Chg I ch) (hl : ch.length ≤ 80) : (payC ch).length ≤ 17531 := by
  have h1 := encC_len ch (fun c hc => mayE_size (h.ok c hc).1)
  have hu := putU_len10 (x := ch.length) (by omega)
  simp only [payC, List.length_append]
  omega
theorem may_refs : may nmRefs = true := by decide
theorem recB_ne (p : List UInt8) : recB p ≠ [] := by
  intro h
  have := congrArg List.length h
  simp only [recB, List.length_append, putW_len, List.length_nil] at this
  omega
theorem layI_nm {I C : Ids} (hI : (keys I).Nodup) (hC : Chg I C) (h : ∀ k n, kget I k = some n → mayE k = 0 ∧ n ≠ 0 ∧ n < 18446744073709551616) (k : ByteArray) (n : Nat) (e : kget (layI I C) k = some n) : mayE k = 0 ∧ n ≠ 0 ∧ n < 18446744073709551616 := by
  rw [layI_get C hI hC.nd] at e
  simp only [layG] at e
  cases hk : kget C k with
  | none => rw [hk] at e; exact h k n e
  | some x =>
    rw [hk] at e
    cases x with
    | zero => cases e
    | succ x =>
      simp only [Option.some.injEq] at e
      subst e
      have hm : (k, x + 1) ∈ C := by
        clear hC
        induction C with
        | nil => simp [kget] at hk
        | cons c r ih =>
          obtain ⟨q, m⟩ := c
          simp only [kget] at hk
          by_cases hq : q = k
          · simp only [if_pos hq, Option.some.injEq] at hk
            rw [hq, hk]; exact List.mem_cons_self
          · simp only [if_neg hq] at hk
            exact List.mem_cons_of_mem _ (ih hk)
      obtain ⟨h1, h2, _⟩ := hC.ok _ hm
      exact ⟨h1, by omega, h2⟩
theorem keys_kset_sub {α : Type} (l : List (ByteArray × α)) (k : ByteArray) (v : α) (P : ByteArray → Prop) (h : ∀ q, q ∈ keys l → P q) (hk : P k) : ∀ q, q ∈ keys (kset l k v) → P q := by
  induction l with
  | nil => intro q hq; simp [kset, keys] at hq; rw [hq]; exact hk
  | cons c r ih =>
    obtain ⟨p, u⟩ := c
    intro q hq
    simp only [kset] at hq
    by_cases e : p = k
    · rw [if_pos e] at hq
      simp only [keys, List.map_cons, List.mem_cons] at hq h
      rcases hq with x | x
      · rw [x]; exact hk
      · exact h q (.inr x)
    · rw [if_neg e] at hq
      simp only [keys, List.map_cons, List.mem_cons] at hq h
      rcases hq with x | x
      · exact h q (.inl x)
      · exact ih (fun q hq => h q (.inr hq)) q x
/-- Changing refs on a disk. -/
theorem set_step {V : RefV} {m : Nat} {l : Ids} (h : Good V m) (hm : m ≤ 4000000) (hl : l.length ≤ 80) (hv : ∀ x, x ∈ l → x.2 < 18446744073709551616) :
    (¬outE V.ids l = 0 ∧ V.set l = (V, outE V.ids l)) ∨
    (outE V.ids l = 0 ∧ (outC V.ids l).length = 0 ∧ V.set l = (V, 0)) ∨
    (outE V.ids l = 0 ∧ ¬(outC V.ids l).length = 0 ∧ ∃ V', V.set l = (V', 0) ∧ V'.ids = layI V.ids (outC V.ids l) ∧ V'.disk.cut = V.disk.cut ∧ Good V' (m + 20000)) ∨
    (outE V.ids l = 0 ∧ ¬(outC V.ids l).length = 0 ∧ V.disk.cut = true ∧ ∃ V' k, V.set l = (V', 6) ∧ V'.ids = V.ids ∧ k < (recB (payC (outC V.ids l))).length ∧ V'.disk.files = if k = 0 then V.disk.files else kset V.disk.files nmRefs (fileB V.disk ++ (recB (payC (outC V.ids l))).take k)) := by
  by_cases he : outE V.ids l = 0
  · obtain ⟨hc, h64, hd, hcl, hs⟩ := out_keeps h.nd hv he
    have n64 : ¬64 < ((layI V.ids (outC V.ids l)).length : Int) := by omega
    by_cases h0 : (outC V.ids l).length = 0
    · exact .inr (.inl ⟨he, h0, set_nil hs n64 h0⟩)
    · have hp := payC_len hc (by omega)
      have hrl := recB_len (p := payC (outC V.ids l)) (by omega)
      obtain ⟨k, hk, hr, hf, hcu⟩ := append_gen (D := V.disk) may_refs (recB_ne (payC (outC V.ids l))) h.fl1 (by have := h.bnd; unfold fileB at this; omega)
      have hja : V.jrn.append V.disk nmRefs (putU (outC V.ids l).length ++ encC (outC V.ids l)) = V.jrn.append V.disk nmRefs (payC (outC V.ids l)) := rfl
      rcases hr with ⟨r1, r2⟩ | ⟨r1, r2, r3⟩
      · have hj : V.jrn.append V.disk nmRefs (payC (outC V.ids l)) = ({ V.jrn with recs := V.jrn.recs ++ [payC (outC V.ids l)], size := V.jrn.size + (recB (payC (outC V.ids l))).length }, (V.disk.append nmRefs (recB (payC (outC V.ids l)))).1, 0) := by
          simp only [JrnV.append, h.jcut, Bool.false_eq_true, if_false, if_neg (show ¬262144 < (payC (outC V.ids l)).length by omega), if_pos r1]
        have hset := set_ok (V := V) hs n64 h0 (by rw [hja, hj])
        rw [hja, hj] at hset
        refine .inr (.inr (.inl ⟨he, h0, _, hset, rfl, hcu, ?_⟩))
        have hne : ¬k = 0 := by
          rw [r2]
          have := List.length_pos_iff.2 (recB_ne (payC (outC V.ids l)))
          omega
        rw [if_neg hne, r2, List.take_of_length_le (Nat.le_refl _)] at hf
        have hfb : fileB (V.disk.append nmRefs (recB (payC (outC V.ids l)))).1 = fileB V.disk ++ recB (payC (outC V.ids l)) := by
          unfold fileB
          rw [hf, kget_kset]
          simp
        have hpa := jparse_app _ _ (recB (payC (outC V.ids l))) V.jrn.recs (Nat.le_refl _) (by rw [h.file, h.size])
        have hr1 := jparse_rec (p := payC (outC V.ids l)) (by omega) []
        rw [List.append_nil, jparse_nil] at hr1
        rw [hr1] at hpa
        refine ⟨h.jcut, ?_, ?_, ?_, h64, ?_, ?_, ?_, ?_⟩
        · simp only [hfb]
          rw [hpa, h.size]
          simp
        · simp only [hfb, List.length_append, h.size]
        · obtain ⟨K, hK1, hK2⟩ := h.opn
          obtain ⟨g1, g2⟩ := rec_enc hc (by omega) (by omega) h64
          have hre : recR K (payC (outC V.ids l)) = recR V.ids (payC (outC V.ids l)) := recL_congr hK2.1 _ _ _ _
          have hle := layI_eqv hK2 hc.nd
          have hre2 := recR_enc hc (by omega)
          refine ⟨layI K (outC V.ids l), ?_, hle⟩
          have o1 : recOk K (payC (outC V.ids l)) = true := by
            simp only [recOk, hre, hre2, hle.len]
            simp only [recOk, hre2] at g1
            exact g1
          have o2 : recI K (payC (outC V.ids l)) = layI K (outC V.ids l) := by simp only [recI, hre, hre2]
          rw [openL_app, hK1]
          simp [openL, o1, o2]
        · simp only [hf]
          exact keys_kset_sub _ _ _ (fun q => q = nmRefs) h.fl rfl
        · simp only [hf]
          exact Slx.nodup_kset h.fnd _ _
        · simp only [hfb, List.length_append]
          have := h.bnd
          omega
        · exact layI_nm h.nd hc h.nm
      · have hj : V.jrn.append V.disk nmRefs (payC (outC V.ids l)) = ({ V.jrn with cut := decide ((V.disk.append nmRefs (recB (payC (outC V.ids l)))).2 = 6) }, (V.disk.append nmRefs (recB (payC (outC V.ids l)))).1, (V.disk.append nmRefs (recB (payC (outC V.ids l)))).2) := by
          simp only [JrnV.append, h.jcut, Bool.false_eq_true, if_false, if_neg (show ¬262144 < (payC (outC V.ids l)).length by omega), if_neg (show ¬(V.disk.append nmRefs (recB (payC (outC V.ids l)))).2 = 0 by rw [r1]; decide)]
        have hset := set_bad (V := V) hs n64 h0 (by rw [hja, hj]; simp only []; rw [r1]; decide)
        rw [hja, hj] at hset
        simp only [r1] at hset
        exact .inr (.inr (.inr ⟨he, h0, r3, _, k, hset, rfl, r2, hf⟩))
  · refine .inl ⟨he, ?_⟩
    by_cases h1 : (setL V.ids l [] [] V.ids.length []).1 = 0
    · have h2 : 64 < (setL V.ids l [] [] V.ids.length []).2.2.1 := by
        by_cases x : 64 < (setL V.ids l [] [] V.ids.length []).2.2.1
        · exact x
        · simp [outE, h1, x] at he
      have := set_long (V := V) (l := l) (ch := (setL V.ids l [] [] V.ids.length []).2.1) (sz := (setL V.ids l [] [] V.ids.length []).2.2.1) (bs := (setL V.ids l [] [] V.ids.length []).2.2.2) (Prod.ext h1 rfl) h2
      rw [this]
      simp [outE, h1, h2]
    · have := set_err (V := V) (l := l) (e := (setL V.ids l [] [] V.ids.length []).1) (ch := (setL V.ids l [] [] V.ids.length []).2.1) (sz := (setL V.ids l [] [] V.ids.length []).2.2.1) (bs := (setL V.ids l [] [] V.ids.length []).2.2.2) rfl h1
      rw [this]
      simp [outE, h1]
end Go.Proofs.YtmhpgdpegneejaaDoor
