import Derived.Test.YtmhpgdpegneejaaDoorSh0
import Derived.Test.YtmhpgdpegneejaaDoorNm1
set_option linter.unusedVariables false
set_option linter.unusedSimpArgs false
namespace Go.Proofs.YtmhpgdpegneejaaDoor
open Go Go.Proofs Go.Proofs.Slx Go.Sort

def encS : List UInt8 → Value := fun l => Value.string ⟨l.toArray⟩
theorem bytes_of (s : ByteArray) : (⟨s.data.toList.toArray⟩ : ByteArray) = s := by cases s; simp
theorem sort_any {f : Nat} (hsome : ∀ (blk off cap : Nat) (ss : List (List UInt8)) (w : World), Go.Sort.Holds encS w blk off ss.toArray → blk < w.heap.size → ss.length < 4611686018427387904 →
      Calls Tryd.prog f #[.slice (some ⟨blk, off, none⟩) ss.length cap] w fun e w' => e = .returned (.tuple #[]) ∧ ∃ n os, w' = grow (putRow encS (Sort.ahead w n) blk off (ss.mergeSort fun x y => decide (x ≤ y)).toArray) os)
    (hnone : ∀ (p : Option Addr) (cap : Nat) (w : World), Calls Tryd.prog f #[.slice p 0 cap] w fun e w' => e = .returned (.tuple #[]) ∧ w' = w)
    (a : Option Addr) (n c : Nat) (ss : List ByteArray) (w : World) (R : List Hp) (hl : ss.length ≤ 1000000) (h : Sat w (OwnS 9 1 (.slice a n c) (scells ss) :: R)) :
    FnC Tryd.prog f [.slice a n c] w fun _ w' => Sat w' (OwnS 9 1 (.slice a n c) (scells (sortS ss)) :: R) := by
  obtain ⟨g, s, x, upd⟩ := h.upd 0 rfl
  rcases x with ⟨a', e, e2⟩ | ⟨b, len, cap, C, fr, e, hb, h1, h2, h3, h4, h5, h6⟩
  · injection e with _ e3 e4
    subst e3 e4
    have : ss = [] := by simpa [scells] using e2
    subst this
    refine FnC.of_calls (hnone a 0 w) ?_
    rintro e w' ⟨rfl, rfl⟩
    rw [show sortS [] = [] by simp [sortS]]
    exact ⟨_, rfl, rfl, h⟩
  · injection e with e1 e3 e4
    subst e1 e3 e4
    have hn : n = ss.length := by rw [scells_len] at h1; omega
    subst hn
    have hbw : w.heap[b]? = some (.cells C 9 fr) := s _ _ hb
    have hlt : b < w.heap.size := (Array.getElem?_eq_some_iff.1 hbw).1
    have hcell : ∀ j, j < ss.length → C[j]? = some (.string ss[j]!) := fun j hj => by
      rw [h5 j (by omega), scells_get (c := ss[j]!) (by simp [hj])]
    have hH : Go.Sort.Holds encS w b 0 (ss.map fun s => s.data.toList).toArray := fun j hj => by
      have hj' : j < ss.length := by simpa using hj
      constructor
      · rw [cell_at hbw, Nat.zero_add, hcell j hj']
        simp [encS, hj']
      · rw [Nat.zero_add]
        simp only [World.frozen?, hbw]
        have : j < C.size := by rw [h2]; omega
        rcases h6 with h | h
        · simp; omega
        · simp; omega
    have key := hsome b 0 c (ss.map fun s => s.data.toList) w hH hlt (by simp; omega)
    rw [List.length_map] at key
    refine FnC.of_calls key ?_
    rintro e w' ⟨rfl, k, os, rfl⟩
    refine ⟨_, rfl, rfl, ?_⟩
    have hD : ((ss.map fun s => s.data.toList).mergeSort fun x y => decide (x ≤ y)).length = ss.length := by simp
    refine upd _ (fun i => if i = b then some (.cells (putCells encS 0 ((ss.map fun s => s.data.toList).mergeSort fun x y => decide (x ≤ y)).toArray C) 9 fr) else none) _
      (.inr ⟨b, ss.length, c, putCells encS 0 ((ss.map fun s => s.data.toList).mergeSort fun x y => decide (x ≤ y)).toArray C, fr, rfl, by simp, by rw [scells_len, sortS_len], by simp [putCells, h2], h3, h4, fun i hi => ?_, by simpa [putCells] using h6⟩) (fun i o ho => ?_) (fun i => ?_) (fun i o hgi ho => ?_)
    · have hi' : i < ss.length := by omega
      have hiC : i < C.size := by rw [h2]; omega
      simp only [putCells, Array.getElem?_mapIdx, Array.getElem?_eq_getElem hiC, Option.map_some, Nat.zero_le, true_and, Nat.zero_add, List.size_toArray, hD, hi', if_true, Nat.sub_zero]
      rw [scells, sortS, List.map_map, List.getElem?_map, List.getElem?_eq_getElem (by omega)]
      simp [encS, hD, hi']
    · by_cases hi : i = b
      · subst hi
        simp at ho
        subst ho
        simp only [hof, grow, putRow, mapBlock, Sort.ahead]
        rw [Array.getElem?_append_left (by simpa using hlt)]
        simp [Array.getElem?_modify, hbw, onCells]
      · simp [hi] at ho
    · by_cases hi : i = b
      · subst hi; exact .inr (.inl (by rw [hb]; simp))
      · exact .inl (by simp [hi])
    · have hib : i ≠ b := by rintro rfl; rw [hb] at hgi; cases hgi
      have hlt' : i < w.heap.size := (Array.getElem?_eq_some_iff.1 ho).1
      simp only [grow, putRow, mapBlock, Sort.ahead]
      rw [Array.getElem?_append_left (by simpa using hlt')]
      simp only [Array.getElem?_modify]
      rw [if_neg (by omega)]
      exact ho
theorem sort_strings (a : Option Addr) (n c : Nat) (ss : List ByteArray) (w : World) (R : List Hp) (hl : ss.length ≤ 1000000) (h : Sat w (OwnS 9 1 (.slice a n c) (scells ss) :: R)) :
    FnC Tryd.prog 63 [.slice a n c] w fun _ w' => Sat w' (OwnS 9 1 (.slice a n c) (scells (sortS ss)) :: R) := sort_any Tryd.sort_Strings Tryd.sort_Strings_none a n c ss w R hl h
theorem sort_slices (a : Option Addr) (n c : Nat) (ss : List ByteArray) (w : World) (R : List Hp) (hl : ss.length ≤ 1000000) (h : Sat w (OwnS 9 1 (.slice a n c) (scells ss) :: R)) :
    FnC Tryd.prog 88 [.slice a n c] w fun _ w' => Sat w' (OwnS 9 1 (.slice a n c) (scells (sortS ss)) :: R) := sort_any Tryd.slices_Sort_string Tryd.slices_Sort_string_none a n c ss w R hl h
/-- The whole heap of a world, as it is. -/
def oldR (w0 : World) : Hp := fun g => hsub (hof w0) g
theorem old_self (w : World) : Sat w [oldR w] :=
  ⟨hof w, fun _ => none, fun _ => .inr rfl, hsub.refl _, (fun _ _ e => by cases e), hsub.refl _, trivial⟩
theorem tab_mono {P : Program} {w0 w : World} {name : String} {k : IntKind} {zs : List Int} (h : Lib.TabIs P w0 name k zs) (hx : ∀ (i : Nat) (o : Obj), w0.heap[i]? = some o → w.heap[i]? = some o) : Lib.TabIs P w name k zs := by
  unfold Lib.TabIs World.var? at h ⊢
  cases hg : P.globalNamed name with
  | none => rw [hg] at h; cases h
  | some g =>
    rw [hg] at h
    simp only [Option.bind_some] at h ⊢
    cases hb : w0.heap[g]? with
    | none => rw [hb] at h; cases h
    | some o => rw [hx g o hb]; rw [hb] at h; exact h
theorem decDigits_len : ∀ (n u : Nat), u < 10 ^ (n + 1) → (Lib.decDigits u).length ≤ n + 1
  | n, u, h => by
    rw [Lib.decDigits]
    split
    · simp
    · rename_i h10
      cases n with
      | zero => omega
      | succ m =>
        have := decDigits_len m (u / 10) (by rw [Nat.pow_succ] at h; omega)
        simp only [List.length_append, List.length_cons, List.length_nil]
        omega
theorem itoa_len {n : Nat} (h : n < 260) : (Lib.itoa (n : Int)).length ≤ 100 := by
  have := decDigits_len 2 n (by omega)
  rw [Lib.itoa, if_neg (by omega)]
  simpa using Nat.le_trans this (by decide)
theorem itoa_ok {w0 : World} (htab : Lib.TabIs Tryd.prog w0 "internal/strconv.uint64pow10" .u64 Lib.pow10Tab) (n : Nat) (w : World) (hn : n < 260) (ho : ∃ g, hsub g (hof w) ∧ oldR w0 g) :
    FnC Tryd.prog 44 [.int .i64 n] w fun v w' => ∃ s, v = .string s ∧ s.size ≤ 100 ∧ ∀ (i : Nat) (x : Obj), w.heap[i]? = some x → w'.heap[i]? = some x := by
  obtain ⟨g, hs, hg⟩ := ho
  refine FnC.of_calls (Tryd.strconv_Itoa (n : Int) (by omega) (by omega) w (tab_mono htab fun i o e => hs i o (hg i o e))) ?_
  rintro e w' ⟨rfl, k, os, rfl⟩
  have hk : ∀ k (w : World), io (w.drewN k) = io w := by
    intro k
    induction k with
    | zero => intro w; rfl
    | succ k ih => intro w; exact ih w.drew
  refine ⟨_, rfl, hk k w, _, rfl, (show (Lib.itoa (n : Int)).toArray.size ≤ 100 by simpa using itoa_len hn), fun i x e => ?_⟩
  have hlt : i < w.heap.size := (Array.getElem?_eq_some_iff.1 e).1
  have : (grow (w.drewN k) os).heap = w.heap ++ os := by
    simp only [grow]
    congr 1
  rw [this, Array.getElem?_append_left hlt]
  exact e
end Go.Proofs.YtmhpgdpegneejaaDoor
