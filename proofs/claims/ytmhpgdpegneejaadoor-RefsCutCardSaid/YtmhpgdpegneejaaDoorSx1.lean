import Derived.Test.YtmhpgdpegneejaaDoorSl8
import Derived.Test.YtmhpgdpegneejaaDoorSl9
import Derived.Lib.ConvBytes
import Derived.Laws.AppendOwn
set_option linter.unusedVariables false
set_option linter.unusedSimpArgs false
namespace Go.Proofs.Slx
open Go
/-! ### 41. []byte(s); range over a string -/
section
variable {c : Place} {ds : List Deferred} {l : Env} {K : Env → World → Prop} {L : List Hp} {w : World} {pos : String} {af : Array Edge} {g : Option (Nat × Bool)} {x y : Operand} {d : Nat} {ty : TypeId}
theorem ef_convSB {src dst e : TypeId} (hs : c.P.underlying src = some .string) (hd' : c.P.underlying dst = some (.slice e)) (he : c.P.underlying e = some (.int .u8)) {s : ByteArray} (hsz : s.size ≤ 9223372036854775807)
    (hx : ev l x = some (.string s)) (h : Sat w L) (hd : Nat.blt d c.n = true)
    (k : ∀ a n cp w', n = s.size → Sat w' (OwnS e 1 (.slice a n cp) (bcells s.data.toList) :: L) → K ((d, .slice a n cp) :: l) w') : OpE c ds ⟨some d, .convert src dst x, ty, pos, af, g⟩ l w K := by
  have hrun := Lib.run_convert_string_bytes (P := c.P) w src dst e s hs hd' he
  have hnew := Lib.bytesWorld_at_new w e s
  have hold := fun j hj => Lib.bytesWorld_at_old w e s j hj
  refine OpE.value (v := .slice (some ⟨w.heap.size, 0, none⟩) s.size (grownCap w s.size 0 e)) (w' := Lib.bytesWorld w e s) (hio := rfl) rfl hd (fun ρ hρ => ?_) ?_
  · rw [Oper.semAt_eq _ _ _ (by intro c; simp)]
    simp [execOp, hρ _ _ hx, hrun]
  · have h1 : Sat (Lib.bytesWorld w e s) (pt w.heap.size (.cells (Lib.bytesCells w e s) e ((Lib.bytesCells w e s).size, (Lib.bytesCells w e s).size + 1)) :: L) := by
      refine ⟨fun i => if i = w.heap.size then some (.cells (Lib.bytesCells w e s) e ((Lib.bytesCells w e s).size, (Lib.bytesCells w e s).size + 1)) else none, hof w, fun i => ?_, fun i x e' => ?_, fun i x e' => ?_, by simp [pt], h⟩
      · by_cases hi : i = w.heap.size
        · subst hi; exact .inr (by simp [hof])
        · exact .inl (by simp [hi])
      · by_cases hi : i = w.heap.size
        · subst hi; simp at e'; subst e'; exact hnew
        · simp [hi] at e'
      · have hlt : i < w.heap.size := (Array.getElem?_eq_some_iff.1 e').1
        simp only [hof] at e' ⊢
        rw [hold i hlt]; exact e'
    refine k _ _ _ _ rfl (h1.head (fun g' hg => .inr ⟨w.heap.size, s.size, grownCap w s.size 0 e, _, _, rfl, hg, by simp [bcells], ?_, ?_, ?_, ?_, .inr (Nat.le_refl _)⟩))
    · simp only [Lib.bytesCells, Array.size_append, Array.size_map, Array.size_replicate, Nat.mul_one]
      have := grownCap_ge w s.size 0 e
      have e9 : s.data.size = s.size := rfl
      omega
    · exact grownCap_ge w s.size 0 e
    · exact grownCap_le_maxLen w s.size 0 e hsz
    · intro i hi
      simp only [Lib.bytesCells]
      have e9 : s.data.size = s.size := rfl
      rw [Array.getElem?_append_left (by simp; omega)]
      simp [bcells]
theorem run_decode_next {P : Program} {w : World} {it p : Nat} {s : ByteArray} (ty : TypeId) (hi : w.heap[it]? = some (.stringIter s p)) :
    (Instr.next (.pointer (some ⟨it, 0, none⟩)) true ty).run P w = if p < s.size then .ok (.tuple #[.bool true, .int .i64 p, .int .i32 (Utf8.decode s p).1]) { w with heap := w.heap.setIfInBounds it (.stringIter s (p + (Utf8.decode s p).2)) } else .ok (.tuple #[.bool false]) w := by
  have g1 : (getObj it).run P w = .ok (.stringIter s p) w := by simp [getObj, Sem.run, hi]
  by_cases hp : p < s.size
  · rw [if_pos hp]
    simp [Instr.next, g1, hp, setObj, getObj, Sem.run, hi, goInt]
  · rw [if_neg hp]
    simp [Instr.next, g1, hp]
theorem ef_rangeS {t : TypeId} {s : ByteArray} (ht : c.P.underlying t = some .string) (hx : ev l x = some (.string s)) (h : Sat w L) (hd : Nat.blt d c.n = true)
    (k : ∀ it w', Sat w' (pt it (.stringIter s 0) :: L) → K ((d, .pointer (some ⟨it, 0, none⟩)) :: l) w') : OpE c ds ⟨some d, .range t x, ty, pos, af, g⟩ l w K := by
  refine OpE.value (v := .pointer (some ⟨w.heap.size, 0, none⟩)) (w' := { w with heap := w.heap.push (.stringIter s 0) }) rfl hd (fun ρ hρ => ?_) (k w.heap.size _ (h.new _ rfl))
  rw [Oper.semAt_eq _ _ _ (by intro c; simp)]
  simp [execOp, Instr.range, hρ _ _ hx, und_run ht, newObj, Sem.run]
theorem ef_nextS {it p : Nat} {s : ByteArray} (n : Nat) (hx : ev l x = some (.pointer (some ⟨it, 0, none⟩))) (h : Sat w L) (hL : L[n]? = some (pt it (.stringIter s p))) (hd : Nat.blt d c.n = true)
    (k0 : ¬p < s.size → ∀ w', Sat w' L → K ((d, .tuple #[.bool false]) :: l) w')
    (k1 : p < s.size → ∀ w', Sat w' (L.set n (pt it (.stringIter s (p + (Utf8.decode s p).2)))) → K ((d, .tuple #[.bool true, .int .i64 p, .int .i32 (Utf8.decode s p).1]) :: l) w') : OpE c ds ⟨some d, .next x true, ty, pos, af, g⟩ l w K := by
  have hit := h.at_ n hL
  have hlt : it < w.heap.size := (Array.getElem?_eq_some_iff.1 hit).1
  have hr := run_decode_next (P := c.P) ty hit
  by_cases hp : p < s.size
  · rw [if_pos hp] at hr
    refine OpE.value (v := .tuple #[.bool true, .int .i64 p, .int .i32 (Utf8.decode s p).1]) (w' := { w with heap := w.heap.setIfInBounds it (.stringIter s (p + (Utf8.decode s p).2)) }) rfl hd (fun ρ hρ => ?_) (k1 hp _ (h.set n hL (by simp [hlt]) (fun i o hi ho => ?_)))
    · rw [Oper.semAt_eq _ _ _ (by intro c; simp)]
      simp [execOp, hρ _ _ hx, hr]
    · simp only [Array.getElem?_setIfInBounds]
      rw [if_neg (by omega)]
      exact ho
  · rw [if_neg hp] at hr
    refine OpE.value (v := .tuple #[.bool false]) (w' := w) rfl hd (fun ρ hρ => ?_) (k0 hp _ h)
    rw [Oper.semAt_eq _ _ _ (by intro c; simp)]
    simp [execOp, hρ _ _ hx, hr]
end
/-! ### 42. A return out of a round -/
section
variable {P : Program} {lp f n : Nat} {cf : Frame} {cs : List Frame} {F : Machine → Prop} {ds : List Deferred} {k : List Item} {l : Env} {w : World} {L : List Hp} {r : Loop} {R : Value → World → Prop} {i0 : Os × Array (Nat × ByteArray)}
theorem run_roundRet (i : Nat) (h : Sat w L) (hL : L[i]? = some (pt lp (.loop r))) (hk : ∀ v w', io w' = i0 → R v w' → Reach P F (lone (cf.finish v) cs w'))
    (hR : ∀ w', Sat w' (L.set i (pt lp (.loop { r with state := .done, pending := some .ret }))) → R (.bool false) w') : Run ⟨P, some lp, f, n, cf :: cs, i0, F⟩ ds (.code .ret :: k) l w := by
  intro hi b a h1 h2 h3 hf
  exact (hk _ { w with heap := w.heap.setIfInBounds lp (.loop { r with state := .done, pending := some .ret }) } hi (hR _ (h.setLoop i hL _))).step (stepR_round_ret h1 h3 (run_endRound (jump := some .ret) (h.at_ i hL)))
end
end Go.Proofs.Slx
