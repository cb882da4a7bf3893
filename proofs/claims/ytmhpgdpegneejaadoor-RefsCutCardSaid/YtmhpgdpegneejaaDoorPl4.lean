import Derived.Test.YtmhpgdpegneejaaDoorPl3
set_option linter.unusedVariables false
set_option linter.unusedSimpArgs false
namespace Go.Proofs.YtmhpgdpegneejaaDoor
open Go Go.Proofs Go.Proofs.Slx
/-- What refs.Open finds. -/
structure OpenOk (D : DiskV) (recs : List (List UInt8)) (size : Nat) (K : Ids) (D' : DiskV) : Prop where
  p : jparse (fileB D) = (recs, size, false)
  t : jtrunc D nmRefs = (D', 0)
  o : openL [] recs = some K
  b : (fileB D).length ≤ 4194304
theorem rs_OpenG {O : World} {d : Nat} {D D' : DiskV} {recs : List (List UInt8)} {size : Nat} {K : Ids} {w : World} {R : List Hp} (ho : OpenOk D recs size K D') (h : Sat w (diskR d D :: mlR O :: R)) :
    FnC Tryd.prog 16 [.pointer (some ⟨d, 0, none⟩)] w fun v w' => ∃ b, v = .tuple #[.pointer (some ⟨b, 0, none⟩), .int .i64 0] ∧ Sat w' (refsR b d K ⟨recs, size, false⟩ :: diskR d D' :: mlR O :: R) := by
  have hb := ho.b
  have hp := ho.p
  unfold fileB at hb hp
  refine FnC.mono (rs_Open (fun f e => by rw [e] at hb; simpa using hb) h) ?_
  rintro v w (⟨q, _⟩ | ⟨_, q, _⟩ | ⟨_, _, q, _⟩ | ⟨_, _, I, b, q, rfl, h⟩)
  · rw [hp] at q; cases q
  · rw [ho.t] at q; exact absurd rfl q
  · rw [hp] at q; simp only [ho.o] at q; cases q
  · rw [hp] at q h
    rw [ho.t] at h
    simp only [ho.o, Option.some.injEq] at q
    subst q
    exact ⟨b, rfl, h⟩
theorem jtrunc_same {D : DiskV} {recs : List (List UInt8)} {size : Nat} (h : jparse (fileB D) = (recs, size, false)) (hs : size = (fileB D).length) : jtrunc D nmRefs = (D, 0) := by
  unfold fileB at h hs
  unfold jtrunc
  rw [h]
  simp only []
  rw [if_neg (by omega)]
theorem good_open {V : RefV} {m : Nat} (h : Good V m) (hm : m ≤ 4194304) : ∃ K, OpenOk V.disk V.jrn.recs V.jrn.size K V.disk ∧ Eqv K V.ids ∧ Good ⟨K, ⟨V.jrn.recs, V.jrn.size, false⟩, V.disk⟩ m := by
  obtain ⟨K, h1, h2⟩ := h.opn
  refine ⟨K, ⟨h.file, jtrunc_same h.file h.size, h1, Nat.le_trans h.bnd hm⟩, h2, ⟨rfl, h.file, h.size, ⟨K, h1, Eqv.refl h2.2.1⟩, ?_, h.fl, h.fnd, h.bnd, fun k n e => h.nm k n (by rw [← h2.1]; exact e)⟩⟩
  rw [h2.len]; exact h.len
theorem good_copy {V : RefV} {m : Nat} {fs : List (ByteArray × List UInt8)} (h : Good V m) (hm : m ≤ 4194304) (hp : (keys fs).Perm (keys V.disk.files)) (hg : ∀ k, kget fs k = kget V.disk.files k) :
    ∃ K, OpenOk ⟨fs, 0, 0, false⟩ V.jrn.recs V.jrn.size K ⟨fs, 0, 0, false⟩ ∧ Eqv K V.ids ∧ Good ⟨K, ⟨V.jrn.recs, V.jrn.size, false⟩, ⟨fs, 0, 0, false⟩⟩ m := by
  have hf : fileB ⟨fs, 0, 0, false⟩ = fileB V.disk := by unfold fileB; rw [hg]
  have h' : Good ⟨V.ids, V.jrn, ⟨fs, 0, 0, false⟩⟩ m := ⟨h.jcut, by rw [hf]; exact h.file, by rw [hf]; exact h.size, h.opn, h.len, fun k hk => h.fl k (hp.mem_iff.1 hk), hp.nodup_iff.2 h.fnd, by rw [hf]; exact h.bnd, h.nm⟩
  exact good_open h' hm
/-- Behind a cut. -/
theorem good_cut {V : RefV} {m k : Nat} {D : DiskV} {p : List UInt8} (h : Good V m) (hm : m ≤ 4000000) (hp : p.length ≤ 262144) (hk : k < (recB p).length) (hkb : (recB p).length ≤ 100000) (hc : D.cut = false)
    (hf : D.files = if k = 0 then V.disk.files else kset V.disk.files nmRefs (fileB V.disk ++ (recB p).take k)) :
    ∃ K D3, OpenOk D V.jrn.recs V.jrn.size K D3 ∧ Eqv K V.ids ∧ Good ⟨K, ⟨V.jrn.recs, V.jrn.size, false⟩, D3⟩ m ∧ D3.cut = false := by
  obtain ⟨K, h1, h2⟩ := h.opn
  have hKl : K.length ≤ 64 := by rw [h2.len]; exact h.len
  have hKn : ∀ k n, kget K k = some n → mayE k = 0 ∧ n ≠ 0 ∧ n < 18446744073709551616 := fun k n e => h.nm k n (by rw [← h2.1]; exact e)
  by_cases h0 : k = 0
  · rw [if_pos h0] at hf
    have hfb : fileB D = fileB V.disk := by unfold fileB; rw [hf]
    refine ⟨K, D, ⟨by rw [hfb]; exact h.file, jtrunc_same (by rw [hfb]; exact h.file) (by rw [hfb]; exact h.size), h1, by rw [hfb]; exact Nat.le_trans h.bnd (by omega)⟩, h2, ⟨rfl, by rw [hfb]; exact h.file, by rw [hfb]; exact h.size, ⟨K, h1, Eqv.refl h2.2.1⟩, hKl, ?_, ?_, by rw [hfb]; exact h.bnd, hKn⟩, hc⟩
    · simp only [hf]; exact h.fl
    · simp only [hf]; exact h.fnd
  · rw [if_neg h0] at hf
    have hfb : fileB D = fileB V.disk ++ (recB p).take k := by
      show (kget D.files nmRefs).getD [] = _
      rw [hf, kget_kset]
      simp
    have hpa := jparse_app _ _ ((recB p).take k) V.jrn.recs (Nat.le_refl _) (by rw [h.file, h.size])
    rw [jparse_part hp hk] at hpa
    simp only [List.append_nil, Nat.add_zero] at hpa
    rw [← hfb, ← h.size] at hpa
    have hlen : (fileB D).length = (fileB V.disk).length + k := by
      rw [hfb, List.length_append, List.length_take]
      omega
    have hbn := h.bnd
    have hsz := h.size
    have hkg : kget D.files nmRefs = some (fileB D) := by
      unfold fileB
      rw [hf, kget_kset]
      simp
    have hst : D.stop = false := by simp [DiskV.stop, hc]
    have htr : jtrunc D nmRefs = ({ D.went with files := kset D.files nmRefs ((fileB D).take V.jrn.size) }, 0) := by
      have hpa' := hpa
      unfold jtrunc
      rw [show (kget D.files nmRefs).getD [] = fileB D from rfl, hpa]
      simp only []
      rw [if_pos (by omega), truncate_go hkg (by omega) (by omega), raw_go hst]
      rfl
    have htk : (fileB D).take V.jrn.size = fileB V.disk := by
      rw [hfb, hsz, List.take_left]
    rw [htk] at htr
    have hfb3 : fileB { D.went with files := kset D.files nmRefs (fileB V.disk) } = fileB V.disk := by
      unfold fileB
      simp only [kget_kset, if_true, Option.getD_some]
    refine ⟨K, _, ⟨hpa, htr, h1, by omega⟩, h2, ⟨rfl, by rw [hfb3]; exact h.file, by rw [hfb3]; exact h.size, ⟨K, h1, Eqv.refl h2.2.1⟩, hKl, ?_, ?_, by rw [hfb3]; exact h.bnd, hKn⟩, hc⟩
    · simp only [hf]
      exact keys_kset_sub _ _ _ (fun q => q = nmRefs) (keys_kset_sub _ _ _ (fun q => q = nmRefs) h.fl rfl) rfl
    · simp only [hf]
      exact Slx.nodup_kset (Slx.nodup_kset h.fnd _ _) _ _
/-- The beginning: no refs. -/
theorem good0 {D : DiskV} (hf : D.files = []) : Good ⟨[], ⟨[], 0, false⟩, D⟩ 0 := by
  have hfb : fileB D = [] := by unfold fileB; rw [hf]; rfl
  exact ⟨rfl, by rw [hfb, jparse_nil], by rw [hfb]; rfl, ⟨[], rfl, Eqv.refl (by simp [keys])⟩, by simp, (by rw [hf]; intro k hk; simp [keys] at hk), (by rw [hf]; simp [keys]), by rw [hfb]; simp, fun k n e => by simp [kget] at e⟩
/-! ### The view -/
theorem sortS_mem {k : ByteArray} {l : List ByteArray} : k ∈ sortS l ↔ k ∈ l := by
  unfold sortS
  rw [List.mem_map]
  constructor
  · rintro ⟨x, hx, rfl⟩
    rw [List.mem_mergeSort, List.mem_map] at hx
    obtain ⟨s, hs, rfl⟩ := hx
    rw [bytes_of]
    exact hs
  · intro h
    exact ⟨k.data.toList, by rw [List.mem_mergeSort]; exact List.mem_map.2 ⟨k, h, rfl⟩, bytes_of k⟩
theorem view_congr {I K : Ids} (e : Eqv K I) : view K = view I := by
  unfold view
  rw [sortS_perm e.perm]
  simp only [e.1]
theorem mem_view {I : Ids} {c : ByteArray × Nat} (h : c ∈ view I) : c.1 ∈ keys I ∧ c.2 = (kget I c.1).getD 0 := by
  simp only [view, List.mem_map] at h
  obtain ⟨k, hk, rfl⟩ := h
  exact ⟨(sortS_mem).1 hk, rfl⟩
theorem view_get {I : Ids} {k : ByteArray} (h : k ∈ keys I) : (k, (kget I k).getD 0) ∈ view I := by
  simp only [view, List.mem_map]
  exact ⟨k, sortS_mem.2 h, rfl⟩
/-- Refs whose views are one, are alike. -/
theorem view_inj {I K : Ids} (h : view K = view I) (k : ByteArray) : kget K k = kget I k := by
  have key : ∀ {A B : Ids}, view A = view B → ∀ k n, kget A k = some n → kget B k = some n := by
    intro A B h k n e
    have hk : k ∈ keys A := mem_keys_kget.2 (by rw [e]; rfl)
    have := view_get hk
    rw [h, e] at this
    obtain ⟨h1, h2⟩ := mem_view this
    rw [mem_keys_kget] at h1
    simp only [Option.getD_some] at h1 h2
    cases hb : kget B k with
    | none => rw [hb] at h1; cases h1
    | some x => rw [hb] at h2; simp only [Option.getD_some] at h2; rw [h2]
  cases e : kget K k with
  | some n => exact (key h k n e).symm
  | none =>
    cases e2 : kget I k with
    | none => rfl
    | some n => rw [key h.symm k n e2] at e; cases e
end Go.Proofs.YtmhpgdpegneejaaDoor
