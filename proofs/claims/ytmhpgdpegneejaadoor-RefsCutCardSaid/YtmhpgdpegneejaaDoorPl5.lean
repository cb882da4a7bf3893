import Derived.Test.YtmhpgdpegneejaaDoorPl4
set_option linter.unusedVariables false
set_option linter.unusedSimpArgs false
namespace Go.Proofs.YtmhpgdpegneejaaDoor
open Go Go.Proofs Go.Proofs.Slx
def nmab : ByteArray := ⟨#[97, 47, 98]⟩
theorem chk_one {s : ByteArray} {c : Nat} (hs : s.size = 1) (hd : Utf8.decode s 0 = (c, 1)) (h1 : ¬badR c) (h2 : ¬c = 65533) (h0 : ¬(s = nm0 ∨ s = nm1 ∨ s = nm2)) : chk s = (0, 0) := by
  have hw : wr1 0 0 (-1) 32 = -1 := rfl
  have e : chkL s 0 0 (-1) 32 = ((0 : Int), (-1 : Int), (c : Int)) := by
    rw [chkL_go (by omega) (by rw [hw]; decide), hd, chkL_out (by simp only []; omega)]
    simp only []
    rw [if_neg h1, hw]
    rfl
  have hl : lookF 0 (-1) (c : Int) s.size = -1 := by
    unfold lookF
    rw [if_neg (by rintro ⟨_, q, _⟩; exact h2 (by omega))]
  unfold chk
  rw [if_neg h0, if_neg (by omega), e]
  simp only []
  rw [hl]
  rfl
theorem parts_ab : partsS nmab = [⟨#[97]⟩, ⟨#[98]⟩] := by
  decide
theorem may_ab : mayE nmab = 0 := by
  have ha : chk ⟨#[97]⟩ = (0, 0) := chk_one (c := 97) rfl rfl (by unfold badR; omega) (by omega) (by decide)
  have hb : chk ⟨#[98]⟩ = (0, 0) := chk_one (c := 98) rfl rfl (by unfold badR; omega) (by omega) (by decide)
  have hp : pathE nmab = (0, 0) := by
    unfold pathE
    rw [if_neg (by decide), parts_ab]
    simp only [pthL]
    rw [ha, hb]
    rfl
  unfold mayE
  rw [hp]
  exact (if_pos rfl).trans (if_neg (by decide))
theorem wake_out : outE [] [(nmab, 7)] = 0 ∧ outC [] [(nmab, 7)] = [(nmab, 7)] := by
  have : setL [] [(nmab, 7)] [] [] (List.length ([] : Ids)) [] = (0, [(nmab, 7)], 1, [] ++ putT nmab ++ putW 7) := by
    simp only [setL]
    rw [if_neg (fun x => x may_ab)]
    rfl
  unfold outE outC
  rw [this]
  exact ⟨rfl, rfl⟩
end Go.Proofs.YtmhpgdpegneejaaDoor
namespace Go.Proofs.YtmhpgdpegneejaaDoor
open Go Go.Proofs Go.Proofs.Slx
def D0 : DiskV := ⟨[], 0, 0, false⟩
theorem open0 : OpenOk D0 [] 0 [] D0 := ⟨jparse_nil, jtrunc_same jparse_nil rfl, rfl, by decide⟩
theorem wake_set : ∃ V1, RefV.set ⟨[], ⟨[], 0, false⟩, D0⟩ [(nmab, 7)] = (V1, 0) ∧ kget V1.ids nmab = some 7 ∧ V1.ids.length = 1 := by
  obtain ⟨h1, h2⟩ := wake_out
  rcases set_step (V := ⟨[], ⟨[], 0, false⟩, D0⟩) (l := [(nmab, 7)]) (good0 rfl) (by decide) (by decide) (by simp) with ⟨q, _⟩ | ⟨_, q, _⟩ | ⟨_, _, V', q, hi, _⟩ | ⟨_, _, q, _⟩
  · exact absurd h1 q
  · simp only [h2] at q; cases q
  · refine ⟨V', q, ?_, ?_⟩
    · rw [hi]; simp only [h2]; rfl
    · rw [hi]; simp only [h2]; rfl
  · cases q
end Go.Proofs.YtmhpgdpegneejaaDoor
