import Derived.Test.YtmhpgdpegneejaaDoorJr0
import Derived.Test.YtmhpgdpegneejaaDoorSh1
import Derived.Lib.SplitLaws
set_option linter.unusedVariables false
set_option linter.unusedSimpArgs false
namespace Go.Proofs.YtmhpgdpegneejaaDoor
open Go Go.Proofs Go.Proofs.Slx
/-! ### Names and paths -/
theorem decode_pos (s : ByteArray) (p : Nat) : 1 ≤ (Utf8.decode s p).2 := by
  simp only [Utf8.decode]
  repeat' split
  all_goals simp
def lookF (last wrong ahead e : Int) : Int := if wrong < 0 ∧ ahead = 65533 ∧ e - last < 3 then last else wrong
def badR (r : Int) : Prop := r < 32 ∨ r = 127 ∨ r = 47
instance (r : Int) : Decidable (badR r) := inferInstanceAs (Decidable (_ ∨ _ ∨ _))
def wr1 (p : Nat) (last wrong ahead : Int) : Int := if 0 < p then lookF last wrong ahead p else wrong
def chkL (s : ByteArray) (p : Nat) (last wrong ahead : Int) : Int × Int × Int :=
  if h : p < s.size then
    if 0 ≤ wr1 p last wrong ahead then (last, wr1 p last wrong ahead, ahead)
    else chkL s (p + (Utf8.decode s p).2) p (if badR (Utf8.decode s p).1 then (p : Int) else wr1 p last wrong ahead) (Utf8.decode s p).1
  else (last, wrong, ahead)
termination_by s.size - p
decreasing_by
  have := decode_pos s p
  omega
theorem chkL_out {s : ByteArray} {p : Nat} {last wrong ahead : Int} (h : ¬p < s.size) : chkL s p last wrong ahead = (last, wrong, ahead) := by rw [chkL, dif_neg h]
theorem chkL_stop {s : ByteArray} {p : Nat} {last wrong ahead : Int} (h : p < s.size) (h2 : 0 ≤ wr1 p last wrong ahead) : chkL s p last wrong ahead = (last, wr1 p last wrong ahead, ahead) := by rw [chkL, dif_pos h, if_pos h2]
theorem chkL_go {s : ByteArray} {p : Nat} {last wrong ahead : Int} (h : p < s.size) (h2 : ¬0 ≤ wr1 p last wrong ahead) :
    chkL s p last wrong ahead = chkL s (p + (Utf8.decode s p).2) p (if badR (Utf8.decode s p).1 then (p : Int) else wr1 p last wrong ahead) (Utf8.decode s p).1 := by rw [chkL, dif_pos h, if_neg h2]
def nm1 : ByteArray := ⟨#[46]⟩
def nm2 : ByteArray := ⟨#[46, 46]⟩
def nm0 : ByteArray := ⟨#[]⟩
def chk (s : ByteArray) : Int × Int :=
  if s = nm0 ∨ s = nm1 ∨ s = nm2 then (140, 0)
  else if 32 < s.size then (3, 32)
  else if 0 ≤ lookF (chkL s 0 0 (-1) 32).1 (chkL s 0 0 (-1) 32).2.1 (chkL s 0 0 (-1) 32).2.2 s.size then (140, lookF (chkL s 0 0 (-1) 32).1 (chkL s 0 0 (-1) 32).2.1 (chkL s 0 0 (-1) 32).2.2 s.size)
  else (0, 0)
def stroke : ByteArray := ⟨#[47]⟩
def partsS (s : ByteArray) : List ByteArray := if s = nm0 then [] else Lib.splitB stroke 0 (Lib.countB s stroke) s
def pthL : Nat → Int → List ByteArray → Int × Int
  | _, _, [] => (0, 0)
  | i, at_, n :: r => if i = 16 then (3, at_) else if (chk n).1 = 0 then pthL (i + 1) (at_ + (n.size + 1)) r else ((chk n).1, IntKind.i64.wrap (at_ + (chk n).2))
def pathE (s : ByteArray) : Int × Int := if 200 < s.size then (3, 200) else pthL 0 0 (partsS s)
def mayE (s : ByteArray) : Int := if (pathE s).1 = 0 then (if s = nm0 then 2 else 0) else (pathE s).1
/-- The library's one variable that Split reads. -/
def mlR (O : World) : Hp := fun g => oldR O g ∧ ∃ C E fr m, g 3 = some (.cells C E fr) ∧ C[0]? = some (.int .i64 m)
theorem mlR_start {W : World} (h : ∃ m, W.cell? ⟨3, 0, none⟩ = some (.int .i64 m)) : Sat W [mlR W] := by
  obtain ⟨m, hm⟩ := h
  refine ⟨hof W, fun _ => none, fun _ => .inr rfl, hsub.refl _, (fun _ _ e => by cases e), ⟨hsub.refl _, ?_⟩, trivial⟩
  simp only [World.cell?] at hm
  split at hm
  · rename_i C E fr hh
    exact ⟨C, E, fr, m, hh, hm⟩
  · cases hm
theorem mlR_end {O w : World} {R : List Hp} (h : Sat w (mlR O :: R)) (i : Nat) (x : Obj) (e : O.heap[i]? = some x) : w.heap[i]? = some x := by
  obtain ⟨g, s, ho, _⟩ := SatH.get 0 h rfl
  exact s i x (ho i x e)
theorem splitB_size (sep : ByteArray) : ∀ (k : Nat) (s x : ByteArray), x ∈ Lib.splitB sep 0 k s → x.size ≤ s.size
  | 0, s, x, h => by simp [Lib.splitB] at h; rw [h]; exact Nat.le_refl _
  | k + 1, s, x, h => by
    simp only [Lib.splitB] at h
    split at h
    · simp at h; rw [h]; exact Nat.le_refl _
    · rcases List.mem_cons.1 h with rfl | h
      · rw [ByteArray.size_extract]; omega
      · have := splitB_size sep k _ _ h
        rw [ByteArray.size_extract] at this
        omega
theorem partsS_size {s x : ByteArray} (h : x ∈ partsS s) : x.size ≤ s.size := by
  unfold partsS at h
  split at h
  · cases h
  · exact splitB_size _ _ _ _ h
theorem split_ok {O : World} {s : ByteArray} {w : World} {R : List Hp} (hs : s.size < 4294967281) (h : Sat w (mlR O :: R)) :
    FnC Tryd.prog 108 [.string s, .string stroke] w fun v w' => ∃ b, v = .slice (some ⟨b, 0, none⟩) (Lib.countB s stroke + 1) (Lib.countB s stroke + 1) ∧
      Sat w' (OwnS 9 1 (.slice (some ⟨b, 0, none⟩) (Lib.countB s stroke + 1) (Lib.countB s stroke + 1)) (scells (Lib.splitB stroke 0 (Lib.countB s stroke) s)) :: mlR O :: R) := by
  obtain ⟨g, sg, ho, C, E, fr, m, hb, hc⟩ := SatH.get 0 h rfl
  have hbw : w.heap[3]? = some (.cells C E fr) := sg _ _ hb
  have hm : w.cell? ⟨3, 0, none⟩ = some (.int .i64 m) := (cell_at hbw 0).trans hc
  refine FnC.of_calls (Tryd.strings_Split s stroke m w hs hm (by decide)) ?_
  rintro e w' ⟨rfl, rfl⟩
  have hl := Lib.splitB_all stroke (by decide) 0 _ s rfl
  have hcb : Lib.countB s stroke + 1 ≤ 9223372036854775807 := by
    have := Lib.countB_le stroke (by decide) s.size s (Nat.le_refl _)
    omega
  refine ⟨_, rfl, rfl, w.heap.size, rfl, ?_⟩
  refine (h.new (w' := w.alloc (.cells ((Lib.splitB stroke 0 (Lib.countB s stroke) s).map Value.string).toArray 9)) _ rfl).head (fun g x => ?_)
  have := own_of_pt (len := Lib.countB s stroke + 1) (cap := Lib.countB s stroke + 1) (sz := 1) (by simp [hl]) (Nat.le_refl _) hcb g x
  simpa [scells, hl, List.take_of_length_le] using this
end Go.Proofs.YtmhpgdpegneejaaDoor
