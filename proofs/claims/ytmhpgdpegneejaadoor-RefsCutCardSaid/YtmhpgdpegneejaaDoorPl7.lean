import Derived.Test.YtmhpgdpegneejaaDoorPl6
set_option linter.unusedVariables false
set_option linter.unusedSimpArgs false
namespace Go.Proofs.YtmhpgdpegneejaaDoor
open Go Go.Proofs Go.Proofs.Slx
/-! ### RefsCut -/
theorem good_fsz {V : RefV} {m : Nat} (h : Good V m) (k : ByteArray) (f : List UInt8) (e : kget V.disk.files k = some f) : f.length ≤ m := by
  have hk : k ∈ keys V.disk.files := by
    cases Classical.em (k ∈ keys V.disk.files) with
    | inl x => exact x
    | inr x => rw [kget_none.2 x] at e; cases e
  have := h.fl k hk
  subst this
  have hb := h.bnd
  unfold fileB at hb
  rw [e] at hb
  exact hb
theorem view_both {A B C : Ids} (h1 : Eqv A C) (h2 : Eqv B C) : view A = view B := (view_congr h1).trans (view_congr h2).symm
theorem cut_pair {V U V' U' : RefV} {m : Nat} {l : Ids} {e no : Int} (hV : Good V m) (hU : Good U m) (hE : Eqv U.ids V.ids) (hc : U.disk.cut = false) (hm : m ≤ 3000000) (hl : l.length ≤ 80) (hv : ∀ x, x ∈ l → x.2 < 18446744073709551616)
    (hsV : RefV.set ⟨V.ids, V.jrn, V.disk⟩ l = (V', e)) (hsU : RefV.set ⟨U.ids, U.jrn, U.disk⟩ l = (U', no)) :
    (¬e = 6 ∧ e = no ∧ view U'.ids = view V'.ids ∧ Good V' (m + 20000) ∧ U'.ids.length ≤ 64) ∨
    (e = 6 ∧ no = 0 ∧ V'.ids = V.ids ∧ U'.ids.length ≤ 64 ∧ ∃ K3 D3, OpenOk V'.disk.mend V.jrn.recs V.jrn.size K3 D3 ∧ Eqv K3 V.ids ∧ Good ⟨K3, ⟨V.jrn.recs, V.jrn.size, false⟩, D3⟩ m ∧
      ∃ W', RefV.set ⟨K3, ⟨V.jrn.recs, V.jrn.size, false⟩, D3⟩ l = (W', 0) ∧ view W'.ids = view U'.ids ∧ W'.ids.length ≤ 64) := by
  have hsV : V.set l = (V', e) := hsV
  have hsU : U.set l = (U', no) := hsU
  obtain ⟨o1, o2⟩ := out_congr hE l
  rcases set_step hV (by omega) hl hv with ⟨q1, q2⟩ | ⟨q1, q2, q3⟩ | ⟨q1, q2, V1, q3, q4, q5, q6⟩ | ⟨q1, q2, q0, V1, k, q3, q4, q5, q6⟩
  · rw [hsV] at q2
    simp only [Prod.mk.injEq] at q2
    obtain ⟨rfl, rfl⟩ := q2
    rcases set_step hU (by omega) hl hv with ⟨p1, p2⟩ | ⟨p1, _⟩ | ⟨p1, _⟩ | ⟨p1, _⟩
    · rw [hsU] at p2
      simp only [Prod.mk.injEq] at p2
      obtain ⟨rfl, rfl⟩ := p2
      exact .inl ⟨outE_ne _ _, o1.symm, view_congr hE, hV.more (by omega), hU.len⟩
    · rw [o1] at p1; exact absurd p1 q1
    · rw [o1] at p1; exact absurd p1 q1
    · rw [o1] at p1; exact absurd p1 q1
  · rw [hsV] at q3
    simp only [Prod.mk.injEq] at q3
    obtain ⟨rfl, rfl⟩ := q3
    rcases set_step hU (by omega) hl hv with ⟨p1, p2⟩ | ⟨p1, p2, p3⟩ | ⟨p1, p2, _⟩ | ⟨p1, p2, _⟩
    · rw [o1] at p1; exact absurd q1 p1
    · rw [hsU] at p3
      simp only [Prod.mk.injEq] at p3
      obtain ⟨rfl, rfl⟩ := p3
      exact .inl ⟨by decide, rfl, view_congr hE, hV.more (by omega), hU.len⟩
    · rw [o2] at p2; exact absurd q2 p2
    · rw [o2] at p2; exact absurd q2 p2
  · rw [hsV] at q3
    simp only [Prod.mk.injEq] at q3
    obtain ⟨rfl, rfl⟩ := q3
    rcases set_step hU (by omega) hl hv with ⟨p1, p2⟩ | ⟨p1, p2, p3⟩ | ⟨p1, p2, U1, p3, p4, p5, p6⟩ | ⟨_, _, p1, _⟩
    · rw [o1] at p1; exact absurd q1 p1
    · rw [o2] at p2; exact absurd p2 q2
    · rw [hsU] at p3
      simp only [Prod.mk.injEq] at p3
      obtain ⟨rfl, rfl⟩ := p3
      obtain ⟨hch, _⟩ := out_keeps hV.nd hv q1
      refine .inl ⟨by decide, rfl, ?_, q6, p6.len⟩
      rw [p4, q4, o2]
      exact view_congr (layI_eqv hE hch.nd)
    · rw [hc] at p1; cases p1
  · rw [hsV] at q3
    simp only [Prod.mk.injEq] at q3
    obtain ⟨rfl, rfl⟩ := q3
    rcases set_step hU (by omega) hl hv with ⟨p1, p2⟩ | ⟨p1, p2, p3⟩ | ⟨p1, p2, U1, p3, p4, p5, p6⟩ | ⟨_, _, p1, _⟩
    · rw [o1] at p1; exact absurd q1 p1
    · rw [o2] at p2; exact absurd p2 q2
    · rw [hsU] at p3
      simp only [Prod.mk.injEq] at p3
      obtain ⟨rfl, rfl⟩ := p3
      obtain ⟨hch, _, _, hcl, _⟩ := out_keeps hV.nd hv q1
      have hpl := payC_len hch (by omega)
      have hrl := recB_len (p := payC (outC V.ids l)) (by omega)
      obtain ⟨K3, D3, g1, g2, g3, g4⟩ := good_cut (D := V'.disk.mend) hV (by omega) (by omega) q5 (by omega) rfl q6
      refine .inr ⟨rfl, rfl, q4, p6.len, K3, D3, g1, g2, g3, ?_⟩
      obtain ⟨u1, u2⟩ := out_congr g2 l
      rcases set_step g3 (by omega) hl hv with ⟨r1, r2⟩ | ⟨r1, r2, r3⟩ | ⟨r1, r2, W1, r3, r4, r5, r6⟩ | ⟨_, _, r1, _⟩
      · exact absurd (u1.trans q1) r1
      · exact absurd ((congrArg List.length u2).symm.trans r2) q2
      · refine ⟨W1, r3, ?_, r6.len⟩
        rw [r4, p4, o2]
        simp only [u2]
        exact view_both (layI_eqv g2 hch.nd) (layI_eqv hE hch.nd)
      · rw [g4] at r1; cases r1
    · rw [hc] at p1; cases p1
/-- A script: slices of refs. -/
structure SRow where
  a : Option Addr
  c : Nat
  l : Ids
def scell9 (s : SRow) : Value := .slice s.a s.l.length s.c
def srcells (S : List SRow) : List Value := S.map scell9
theorem srcells_at {S : List SRow} {i : Nat} {s : SRow} (h : S[i]? = some s) : (srcells S)[i]? = some (.slice s.a s.l.length s.c) := by simp [srcells, scell9, h]
theorem u64_nn (n : Int) : 0 ≤ IntKind.u64.wrap n := by
  rw [IntKind.wrap_u64]
  omega
theorem cut_nn (n : Int) : 0 ≤ IntKind.i64.wrap (IntKind.u64.wrap n % 60) := by
  have := u64_nn n
  rw [wrap_id ⟨by omega, by omega⟩]
  omega
end Go.Proofs.YtmhpgdpegneejaaDoor
