/- A statement with blocks is parsed. A statement with blocks is parsed. An assignment is parsed. Blocks of statements; statements and blocks together. -/
import Derived.Test.YtokdcfehnhifhaaGreatDoorPar2
import Derived.Test.YtokdcfehnhifhaaGreatDoorPur
namespace Go.Proofs.YtokdcfehnhifhaaGreatDoor
/-! A statement with blocks is parsed. -/
section
set_option linter.unusedVariables false
set_option linter.unusedSimpArgs false
open Go.RowKit

theorem eatS_no {t : List UInt8} {s : PS} (h : isOf [t] s = false) : eatS t s = s := by simp [eatS, h]
set_option maxHeartbeats 4000000 in
theorem stmt_if (f pb : Nat) (ihB : CallsB f) (s0 : PS) (w : World) (r : Res St) (hs : PSt w pb s0) (hb1 : isOf [[114, 101, 97, 100]] s0 = false) (hb2 : isOf [[105, 102]] s0 = true) (h : pStmt (f + 1) s0 = some r) :
    Calls Tryz.prog 58 #[.pointer (some ⟨pb, 0, none⟩)] w (PEnd w pb r (rdS w.heap.size)) := by
  have hlt := hs.lt
  have G0 := Lib.hid (Gr.refl (· ≠ pb) (w.alloc (.cells zS 66)))
  have R0 := Lib.hid (Has.new w zS 66 rfl)
  have S0 := Lib.hid hs
  simp only [zS] at G0 R0
  clear hs
  unfold pStmt at h
  have HB1 := Lib.hid hb1
  clear hb1
  have HB2 := Lib.hid hb2
  clear hb2
  rw [bind_eat] at h
  have B1 := Lib.hid h
  clear h
  go_enter Tryz.func58, Tryz.ntmps58
  go_wp2_with fail
  refine (eat_text pb s0 _ (S0.out.below (by go_grown)) [114, 101, 97, 100]).mono ?_
  rintro e w1 ⟨rfl, hs, hg⟩
  have h := B1.out
  rw [HB1.out] at h ⊢
  rw [eatS_no HB1.out] at h hs
  simp only [if_neg (show ¬ (false = true) by simp)] at h
  have S1 := Lib.hid hs
  have G1 := Lib.hid (G0.out.step (by go_grown) hg)
  have R1 := Lib.hid ((R0.out.below (by go_grown)).gr hg (by omega))
  clear hs hg
  try clear hz
  have hz : w.heap.size < w1.heap.size := by have := G1.out.size; simp at this; omega
  rw [bind_eat] at h
  have B2 := Lib.hid h
  clear h
  go_wp2_with fail
  refine (eat_text pb s0 _ (S1.out.below (by go_grown)) [105, 102]).mono ?_
  rintro e w2 ⟨rfl, hs, hg⟩
  have h := B2.out
  rw [HB2.out] at h ⊢
  generalize eatS [105, 102] s0 = s2 at h hs
  simp only [if_true] at h
  have S2 := Lib.hid hs
  have G2 := Lib.hid (G1.out.step (by go_grown) hg)
  have R2 := Lib.hid ((R1.out.below (by go_grown)).gr hg (by omega))
  clear hs hg
  try clear hz
  have hz : w.heap.size < w2.heap.size := by have := G2.out.size; simp at this; omega
  obtain ⟨q4, hq, h⟩ := P.bind_some h
  have Hq4 := Lib.hid hq
  have H4 := Lib.hid h
  clear hq h
  go_wp2_with fail
  refine (condition_calls f pb s2 _ q4 (S2.out.below (by go_grown)) Hq4.out).mono ?_
  rintro e w4 he
  rcases H4.out with ⟨n, rfl, rfl⟩ | ⟨a4, s4, rfl, h⟩
  · obtain ⟨rfl, hg⟩ := he
    have G4 := Lib.hid (G2.out.step (by go_grown) hg)
    clear hg
    go_wp2_with fail
    exact ⟨rfl, rfl, G4.out.pre⟩
  obtain ⟨_, rfl, ⟨A4, m4, n4, rfl, he⟩, hs, hg⟩ := he
  have S4 := Lib.hid hs
  have G4 := Lib.hid (G2.out.step (by go_grown) hg)
  have R4 := Lib.hid ((R2.out.below (by go_grown)).gr hg (by omega))
  have E4 := Lib.hid (he.mono (ok' := (w.heap.size < ·)) (fun b _ hb => by have := G2.out.size; simp at hb this ⊢; omega))
  clear he
  clear hs hg
  try clear hz
  have hz : w.heap.size < w4.heap.size := by have := G4.out.size; simp at this; omega
  obtain ⟨q5, hq, h⟩ := P.bind_some h
  have Hq5 := Lib.hid hq
  have H5 := Lib.hid h
  clear hq h
  have hyl : w.heap.size < w4.heap.size := hz
  have Y4 := Lib.hid (Has.new w4 #[.int .i64 3, .string ⟨#[]⟩, .slice none 0 0, .int .i64 a4.op, .string ⟨a4.text.toArray⟩, .int .i64 a4.ty, .slice A4 m4 n4, .int .i64 0, .string ⟨#[]⟩, .int .i64 0, .slice none 0 0, .int .i64 0, .string ⟨#[]⟩, .int .i64 0, .slice none 0 0, .slice none 0 0, .slice none 0 0] 66 rfl)
  have Q4 := Lib.hid (Gr.refl (fun b => b ≠ pb ∧ b ≠ w4.heap.size) w4)
  have X4 := Lib.hid (E4.out.mono (ok' := fun b => (b ≠ pb ∧ b ≠ w4.heap.size) ∧ w.heap.size < b) (fun b hb h => ⟨⟨by have h : w.heap.size < b := h; omega, by omega⟩, h⟩))
  go_wp2_with fail
  refine (ihB pb s4 _ q5 (S4.out.below (by go_grown)) Hq5.out).mono ?_
  rintro e w5 he
  rcases H5.out with ⟨n, rfl, rfl⟩ | ⟨a5, s5, rfl, h⟩
  · obtain ⟨rfl, hg⟩ := he
    have G5 := Lib.hid (G4.out.step (by go_grown) hg)
    clear hg
    go_wp2_with fail
    exact ⟨rfl, rfl, G5.out.pre⟩
  obtain ⟨_, rfl, ⟨A5, m5, n5, C5, rfl, hrk, hst⟩, hs, hg⟩ := he
  have S5 := Lib.hid hs
  have G5 := Lib.hid (G4.out.step (by go_grown) hg)
  have R5 := Lib.hid ((R4.out.below (by go_grown)).gr hg (by omega))
  have Y5 := Lib.hid ((Y4.out.below (by go_grown)).gr hg (by omega))
  have Q5 := Lib.hid ((Q4.out.trans (Gr.of_below _ (by go_grown))).trans (hg.mono fun _ _ h => h.1))
  clear hs hg
  try clear hz
  have hz : w.heap.size < w5.heap.size := by have := G5.out.size; simp at this; omega
  have T5 := Lib.hid (hrk.mono (ok' := fun b => (b ≠ pb ∧ b ≠ w4.heap.size) ∧ w.heap.size < b) (fun b _ h => by have h : _ ≤ b := h; (try simp at h); exact ⟨⟨by omega, by omega⟩, by omega⟩))
  have U5 := Lib.hid (hst.mono (ok' := fun b => (b ≠ pb ∧ b ≠ w4.heap.size) ∧ w.heap.size < b) (fun b _ h => by have h : _ ≤ b := h; (try simp at h); exact ⟨⟨by omega, by omega⟩, by omega⟩))
  have V5 := Lib.hid (Gr.refl (fun b => b ≠ pb ∧ b ≠ w4.heap.size) w5)
  clear hrk hst
  have hy5 := Y5.out.lt
  have y15 := Y5.out.cell 15 _ rfl
  have yf15 := Y5.out.frz 15 (by simp)
  obtain ⟨As, hAs⟩ : ∃ A, A = A5 := ⟨_, rfl⟩
  rw [bind_eat] at h
  have B6 := Lib.hid h
  clear h
  go_wp2_with fail
  have G5b := Lib.hid ((G5.out).setCell (p := ⟨w4.heap.size, 15, none⟩) (Or.inl (by simp; omega)) (.slice A5 m5 n5))
  have S5b := Lib.hid (S5.out.gr ((Gr.refl (· ≤ pb) w5).setCell (p := ⟨w4.heap.size, 15, none⟩) (Or.inr (by simp; omega)) (.slice A5 m5 n5)))
  have K5b := Lib.hid ((Gr.refl (w4.heap.size < ·) w5).setCell (p := ⟨w4.heap.size, 15, none⟩) (Or.inr (by simp)) (.slice A5 m5 n5))
  have J5b := Lib.hid ((Gr.refl (· ≠ w4.heap.size) w5).setCell (p := ⟨w4.heap.size, 15, none⟩) (Or.inr (by simp)) (.slice A5 m5 n5))
  have Y5b := Lib.hid ((Y5.out).set 15 (.slice A5 m5 n5) (by simp))
  have R5b := Lib.hid ((R5.out).off ⟨w4.heap.size, 15, none⟩ (.slice A5 m5 n5) (by simp; omega))
  have Q5b := Lib.hid (Q5.out.trans (J5b.out.mono fun _ _ h => h.2))
  have V5b := Lib.hid (V5.out.trans (J5b.out.mono fun _ _ h => h.2))
  clear y15 yf15
  refine (eat_text pb s5 _ (S5b.out.below (by go_grown)) [101, 108, 115, 101]).mono ?_
  rintro e w6 ⟨rfl, hs, hg⟩
  have h := B6.out
  generalize hbq : isOf [[101, 108, 115, 101]] s5 = b at h ⊢
  have Hb6 := Lib.hid hbq
  clear hbq
  generalize eatS [101, 108, 115, 101] s5 = s6 at h hs
  have S6 := Lib.hid hs
  have G6 := Lib.hid (G5b.out.step (by go_grown) hg)
  have R6 := Lib.hid ((R5b.out.below (by go_grown)).gr hg (by omega))
  have Y6 := Lib.hid ((Y5b.out.below (by go_grown)).gr hg (by omega))
  have Q6 := Lib.hid ((Q5b.out.trans (Gr.of_below _ (by go_grown))).trans (hg.mono fun _ _ h => h.1))
  have V6 := Lib.hid ((V5b.out.trans (Gr.of_below _ (by go_grown))).trans (hg.mono fun _ _ h => h.1))
  clear hs hg
  try clear hz
  have hz : w.heap.size < w6.heap.size := by have := G6.out.size; simp at this; omega
  cases b with
  | true =>
    simp only [if_true] at h
    obtain ⟨q7, hq, h⟩ := P.bind_some h
    have Hq7 := Lib.hid hq
    have H7 := Lib.hid h
    clear hq h
    go_wp2_with fail
    refine (ihB pb s6 _ q7 (S6.out.below (by go_grown)) Hq7.out).mono ?_
    rintro e w7 he
    rcases H7.out with ⟨n, rfl, rfl⟩ | ⟨a7, s7, rfl, h⟩
    · obtain ⟨rfl, hg⟩ := he
      have G7 := Lib.hid (G6.out.step (by go_grown) hg)
      clear hg
      go_wp2_with fail
      exact ⟨rfl, rfl, G7.out.pre⟩
    obtain ⟨_, rfl, ⟨A7, m7, n7, C7, rfl, hrk, hst⟩, hs, hg⟩ := he
    have S7 := Lib.hid hs
    have G7 := Lib.hid (G6.out.step (by go_grown) hg)
    have R7 := Lib.hid ((R6.out.below (by go_grown)).gr hg (by omega))
    have Y7 := Lib.hid ((Y6.out.below (by go_grown)).gr hg (by omega))
    have Q7 := Lib.hid ((Q6.out.trans (Gr.of_below _ (by go_grown))).trans (hg.mono fun _ _ h => h.1))
    have V7 := Lib.hid ((V6.out.trans (Gr.of_below _ (by go_grown))).trans (hg.mono fun _ _ h => h.1))
    clear hs hg
    try clear hz
    have hz : w.heap.size < w7.heap.size := by have := G7.out.size; simp at this; omega
    have hy6 := Y6.out.lt
    have T7 := Lib.hid (hrk.mono (ok' := fun b => (b ≠ pb ∧ b ≠ w4.heap.size) ∧ w.heap.size < b) (fun b _ h => by have h : _ ≤ b := h; (try simp at h); exact ⟨⟨by omega, by omega⟩, by omega⟩))
    have U7 := Lib.hid (hst.mono (ok' := fun b => (b ≠ pb ∧ b ≠ w4.heap.size) ∧ w.heap.size < b) (fun b _ h => by have h : _ ≤ b := h; (try simp at h); exact ⟨⟨by omega, by omega⟩, by omega⟩))
    clear hrk hst
    have y16 := Y7.out.cell 16 _ rfl
    have yf16 := Y7.out.frz 16 (by simp)
    injection h with h
    subst h
    have G7b := Lib.hid ((G7.out).setCell (p := ⟨w4.heap.size, 16, none⟩) (Or.inl (by simp; omega)) (.slice A7 m7 n7))
    have S7b := Lib.hid (S7.out.gr ((Gr.refl (· ≤ pb) w7).setCell (p := ⟨w4.heap.size, 16, none⟩) (Or.inr (by simp; omega)) (.slice A7 m7 n7)))
    have K7b := Lib.hid ((Gr.refl (w4.heap.size < ·) w7).setCell (p := ⟨w4.heap.size, 16, none⟩) (Or.inr (by simp)) (.slice A7 m7 n7))
    have J7b := Lib.hid ((Gr.refl (· ≠ w4.heap.size) w7).setCell (p := ⟨w4.heap.size, 16, none⟩) (Or.inr (by simp)) (.slice A7 m7 n7))
    have Y7b := Lib.hid ((Y7.out).set 16 (.slice A7 m7 n7) (by simp))
    have R7b := Lib.hid ((R7.out).off ⟨w4.heap.size, 16, none⟩ (.slice A7 m7 n7) (by simp; omega))
    have Q7b := Lib.hid (Q7.out.trans (J7b.out.mono fun _ _ h => h.2))
    have V7b := Lib.hid (V7.out.trans (J7b.out.mono fun _ _ h => h.2))
    have Ye := Lib.hid (show Has (w7.setCell ⟨w4.heap.size, 16, none⟩ (.slice A7 m7 n7)) w4.heap.size #[.int .i64 3, .string ⟨#[]⟩, .slice none 0 0, .int .i64 a4.op, .string ⟨a4.text.toArray⟩, .int .i64 a4.ty, .slice A4 m4 n4, .int .i64 0, .string ⟨#[]⟩, .int .i64 0, .slice none 0 0, .int .i64 0, .string ⟨#[]⟩, .int .i64 0, .slice none 0 0, .slice A5 m5 n5, .slice A7 m7 n7] by have := Y7b.out; simpa using this)
    have XE := Lib.hid ((X4.out.gr (Q7b.out.mono fun _ _ h => h.1)).mono (ok' := (w.heap.size + 1 ≤ ·)) fun b _ h => h.2)
    have XT := Lib.hid ((T5.out.gr (V7b.out.mono fun _ _ h => h.1)).mono (ok' := (w.heap.size + 1 ≤ ·)) fun b _ h => h.2)
    have XU := Lib.hid ((U5.out.gr (V7b.out.mono fun _ _ h => h.1)).mono (ok' := (w.heap.size + 1 ≤ ·)) fun b _ h => h.2)
    have XT7 := Lib.hid ((T7.out.gr (J7b.out.mono fun _ _ h => h.1.2)).mono (ok' := (w.heap.size + 1 ≤ ·)) fun b _ h => h.2)
    have XU7 := Lib.hid ((U7.out.gr (J7b.out.mono fun _ _ h => h.1.2)).mono (ok' := (w.heap.size + 1 ≤ ·)) fun b _ h => h.2)
    have HE := Lib.hid (show rdS (w.heap.size + 1) (.mk 3 [] [] a4 .no .no a5 a7) (.agg #[.int .i64 3, .string ⟨#[]⟩, .slice none 0 0, .int .i64 a4.op, .string ⟨a4.text.toArray⟩, .int .i64 a4.ty, .slice A4 m4 n4, .int .i64 0, .string ⟨#[]⟩, .int .i64 0, .slice none 0 0, .int .i64 0, .string ⟨#[]⟩, .int .i64 0, .slice none 0 0, .slice A5 m5 n5, .slice A7 m7 n7]) (w7.setCell ⟨w4.heap.size, 16, none⟩ (.slice A7 m7 n7)) from ⟨none, 0, 0, A4, m4, n4, none, 0, 0, none, 0, 0, A5, m5, n5, A7, m7, n7, rfl, stC_mk 3 [] (rdk0 _ _ _) (exs0 _ _) XE.out (exC_no _ _) (exC_no _ _) XT.out XU.out XT7.out XU7.out⟩)
    have Yz7b := Ye
    go_wp2_with (first | (refine wpList_loadHas rfl _ _ rfl w4.heap.size rfl _ Yz7b.out _ Tryz.underlying66 rfl 17 rfl (by kernel_rfl) ?_) | (refine wpList_storeHas rfl _ _ _ rfl w.heap.size 0 _ rfl rfl _ R7b.out #[.int .i64 3, .string ⟨#[]⟩, .slice none 0 0, .int .i64 a4.op, .string ⟨a4.text.toArray⟩, .int .i64 a4.ty, .slice A4 m4 n4, .int .i64 0, .string ⟨#[]⟩, .int .i64 0, .slice none 0 0, .int .i64 0, .string ⟨#[]⟩, .int .i64 0, .slice none 0 0, .slice A5 m5 n5, .slice A7 m7 n7] rfl 17 17 rfl rfl (by decide) (by kernel_rfl) rfl ?_; intro wf hY hG hq; clear hq; have Rf := Lib.hid hY; have Kf := Lib.hid hG; clear hY hG))
    try simp only [Exit.inBlock, Exit.then]
    refine bodyPost_ret (results_has rfl _ _ w.heap.size _ _ rfl Rf.out Tryz.underlying66 rfl 17 rfl (by kernel_rfl)) rfl ?_
    refine pendS hlt G7b.out S7b.out _ _ HE.out Kf.out
  | false =>
    simp only [if_neg (show ¬ (false = true) by simp)] at h
    injection h with h
    subst h
    have Ye := Lib.hid (show Has w6 w4.heap.size #[.int .i64 3, .string ⟨#[]⟩, .slice none 0 0, .int .i64 a4.op, .string ⟨a4.text.toArray⟩, .int .i64 a4.ty, .slice A4 m4 n4, .int .i64 0, .string ⟨#[]⟩, .int .i64 0, .slice none 0 0, .int .i64 0, .string ⟨#[]⟩, .int .i64 0, .slice none 0 0, .slice A5 m5 n5, .slice none 0 0] by have := Y6.out; simpa using this)
    have XE := Lib.hid ((X4.out.gr (Q6.out.mono fun _ _ h => h.1)).mono (ok' := (w.heap.size + 1 ≤ ·)) fun b _ h => h.2)
    have XT := Lib.hid ((T5.out.gr (V6.out.mono fun _ _ h => h.1)).mono (ok' := (w.heap.size + 1 ≤ ·)) fun b _ h => h.2)
    have XU := Lib.hid ((U5.out.gr (V6.out.mono fun _ _ h => h.1)).mono (ok' := (w.heap.size + 1 ≤ ·)) fun b _ h => h.2)
    have HE := Lib.hid (show rdS (w.heap.size + 1) (.mk 3 [] [] a4 .no .no a5 []) (.agg #[.int .i64 3, .string ⟨#[]⟩, .slice none 0 0, .int .i64 a4.op, .string ⟨a4.text.toArray⟩, .int .i64 a4.ty, .slice A4 m4 n4, .int .i64 0, .string ⟨#[]⟩, .int .i64 0, .slice none 0 0, .int .i64 0, .string ⟨#[]⟩, .int .i64 0, .slice none 0 0, .slice A5 m5 n5, .slice none 0 0]) w6 from ⟨none, 0, 0, A4, m4, n4, none, 0, 0, none, 0, 0, A5, m5, n5, none, 0, 0, rfl, stC_mk 3 [] (rdk0 _ _ _) (exs0 _ _) XE.out (exC_no _ _) (exC_no _ _) XT.out XU.out (rdk0 _ _ _) (sts0 _ _)⟩)
    have Yz6 := Ye
    go_wp2_with (first | (refine wpList_loadHas rfl _ _ rfl w4.heap.size rfl _ Yz6.out _ Tryz.underlying66 rfl 17 rfl (by kernel_rfl) ?_) | (refine wpList_storeHas rfl _ _ _ rfl w.heap.size 0 _ rfl rfl _ R6.out #[.int .i64 3, .string ⟨#[]⟩, .slice none 0 0, .int .i64 a4.op, .string ⟨a4.text.toArray⟩, .int .i64 a4.ty, .slice A4 m4 n4, .int .i64 0, .string ⟨#[]⟩, .int .i64 0, .slice none 0 0, .int .i64 0, .string ⟨#[]⟩, .int .i64 0, .slice none 0 0, .slice A5 m5 n5, .slice none 0 0] rfl 17 17 rfl rfl (by decide) (by kernel_rfl) rfl ?_; intro wf hY hG hq; clear hq; have Rf := Lib.hid hY; have Kf := Lib.hid hG; clear hY hG))
    try simp only [Exit.inBlock, Exit.then]
    refine bodyPost_ret (results_has rfl _ _ w.heap.size _ _ rfl Rf.out Tryz.underlying66 rfl 17 rfl (by kernel_rfl)) rfl ?_
    refine pendS hlt G6.out S6.out _ _ HE.out Kf.out
end

/-! A statement with blocks is parsed. -/
section
set_option linter.unusedVariables false
set_option linter.unusedSimpArgs false
open Go.RowKit

set_option maxHeartbeats 4000000 in
theorem stmt_while (f pb : Nat) (ihB : CallsB f) (s0 : PS) (w : World) (r : Res St) (hs : PSt w pb s0) (hb1 : isOf [[114, 101, 97, 100]] s0 = false) (hb2 : isOf [[105, 102]] s0 = false) (hb3 : isOf [[119, 104, 105, 108, 101]] s0 = true) (h : pStmt (f + 1) s0 = some r) :
    Calls Tryz.prog 58 #[.pointer (some ⟨pb, 0, none⟩)] w (PEnd w pb r (rdS w.heap.size)) := by
  have hlt := hs.lt
  have G0 := Lib.hid (Gr.refl (· ≠ pb) (w.alloc (.cells zS 66)))
  have R0 := Lib.hid (Has.new w zS 66 rfl)
  have S0 := Lib.hid hs
  simp only [zS] at G0 R0
  clear hs
  unfold pStmt at h
  have HB1 := Lib.hid hb1
  clear hb1
  have HB2 := Lib.hid hb2
  clear hb2
  have HB3 := Lib.hid hb3
  clear hb3
  rw [bind_eat] at h
  have B1 := Lib.hid h
  clear h
  go_enter Tryz.func58, Tryz.ntmps58
  go_wp2_with fail
  refine (eat_text pb s0 _ (S0.out.below (by go_grown)) [114, 101, 97, 100]).mono ?_
  rintro e w1 ⟨rfl, hs, hg⟩
  have h := B1.out
  rw [HB1.out] at h ⊢
  rw [eatS_no HB1.out] at h hs
  simp only [if_neg (show ¬ (false = true) by simp)] at h
  have S1 := Lib.hid hs
  have G1 := Lib.hid (G0.out.step (by go_grown) hg)
  have R1 := Lib.hid ((R0.out.below (by go_grown)).gr hg (by omega))
  clear hs hg
  try clear hz
  have hz : w.heap.size < w1.heap.size := by have := G1.out.size; simp at this; omega
  rw [bind_eat] at h
  have B2 := Lib.hid h
  clear h
  go_wp2_with fail
  refine (eat_text pb s0 _ (S1.out.below (by go_grown)) [105, 102]).mono ?_
  rintro e w2 ⟨rfl, hs, hg⟩
  have h := B2.out
  rw [HB2.out] at h ⊢
  rw [eatS_no HB2.out] at h hs
  simp only [if_neg (show ¬ (false = true) by simp)] at h
  have S2 := Lib.hid hs
  have G2 := Lib.hid (G1.out.step (by go_grown) hg)
  have R2 := Lib.hid ((R1.out.below (by go_grown)).gr hg (by omega))
  clear hs hg
  try clear hz
  have hz : w.heap.size < w2.heap.size := by have := G2.out.size; simp at this; omega
  rw [bind_eat] at h
  have B3 := Lib.hid h
  clear h
  go_wp2_with fail
  refine (eat_text pb s0 _ (S2.out.below (by go_grown)) [119, 104, 105, 108, 101]).mono ?_
  rintro e w3 ⟨rfl, hs, hg⟩
  have h := B3.out
  rw [HB3.out] at h ⊢
  generalize eatS [119, 104, 105, 108, 101] s0 = s3 at h hs
  simp only [if_true] at h
  have S3 := Lib.hid hs
  have G3 := Lib.hid (G2.out.step (by go_grown) hg)
  have R3 := Lib.hid ((R2.out.below (by go_grown)).gr hg (by omega))
  clear hs hg
  try clear hz
  have hz : w.heap.size < w3.heap.size := by have := G3.out.size; simp at this; omega
  obtain ⟨q4, hq, h⟩ := P.bind_some h
  have Hq4 := Lib.hid hq
  have H4 := Lib.hid h
  clear hq h
  go_wp2_with fail
  refine (condition_calls f pb s3 _ q4 (S3.out.below (by go_grown)) Hq4.out).mono ?_
  rintro e w4 he
  rcases H4.out with ⟨n, rfl, rfl⟩ | ⟨a4, s4, rfl, h⟩
  · obtain ⟨rfl, hg⟩ := he
    have G4 := Lib.hid (G3.out.step (by go_grown) hg)
    clear hg
    go_wp2_with fail
    exact ⟨rfl, rfl, G4.out.pre⟩
  obtain ⟨_, rfl, ⟨A4, m4, n4, rfl, he⟩, hs, hg⟩ := he
  have S4 := Lib.hid hs
  have G4 := Lib.hid (G3.out.step (by go_grown) hg)
  have R4 := Lib.hid ((R3.out.below (by go_grown)).gr hg (by omega))
  have E4 := Lib.hid (he.mono (ok' := (w.heap.size < ·)) (fun b _ hb => by have := G3.out.size; simp at hb this ⊢; omega))
  clear he
  clear hs hg
  try clear hz
  have hz : w.heap.size < w4.heap.size := by have := G4.out.size; simp at this; omega
  obtain ⟨q5, hq, h⟩ := P.bind_some h
  have Hq5 := Lib.hid hq
  have H5 := Lib.hid h
  clear hq h
  have hyl : w.heap.size < w4.heap.size := hz
  have Y4 := Lib.hid (Has.new w4 #[.int .i64 4, .string ⟨#[]⟩, .slice none 0 0, .int .i64 a4.op, .string ⟨a4.text.toArray⟩, .int .i64 a4.ty, .slice A4 m4 n4, .int .i64 0, .string ⟨#[]⟩, .int .i64 0, .slice none 0 0, .int .i64 0, .string ⟨#[]⟩, .int .i64 0, .slice none 0 0, .slice none 0 0, .slice none 0 0] 66 rfl)
  have Q4 := Lib.hid (Gr.refl (fun b => b ≠ pb ∧ b ≠ w4.heap.size) w4)
  have X4 := Lib.hid (E4.out.mono (ok' := fun b => (b ≠ pb ∧ b ≠ w4.heap.size) ∧ w.heap.size < b) (fun b hb h => ⟨⟨by have h : w.heap.size < b := h; omega, by omega⟩, h⟩))
  go_wp2_with fail
  refine (ihB pb s4 _ q5 (S4.out.below (by go_grown)) Hq5.out).mono ?_
  rintro e w5 he
  rcases H5.out with ⟨n, rfl, rfl⟩ | ⟨a5, s5, rfl, h⟩
  · obtain ⟨rfl, hg⟩ := he
    have G5 := Lib.hid (G4.out.step (by go_grown) hg)
    clear hg
    go_wp2_with fail
    exact ⟨rfl, rfl, G5.out.pre⟩
  obtain ⟨_, rfl, ⟨A5, m5, n5, C5, rfl, hrk, hst⟩, hs, hg⟩ := he
  have S5 := Lib.hid hs
  have G5 := Lib.hid (G4.out.step (by go_grown) hg)
  have R5 := Lib.hid ((R4.out.below (by go_grown)).gr hg (by omega))
  have Y5 := Lib.hid ((Y4.out.below (by go_grown)).gr hg (by omega))
  have Q5 := Lib.hid ((Q4.out.trans (Gr.of_below _ (by go_grown))).trans (hg.mono fun _ _ h => h.1))
  clear hs hg
  try clear hz
  have hz : w.heap.size < w5.heap.size := by have := G5.out.size; simp at this; omega
  have T5 := Lib.hid (hrk.mono (ok' := fun b => (b ≠ pb ∧ b ≠ w4.heap.size) ∧ w.heap.size < b) (fun b _ h => by have h : _ ≤ b := h; (try simp at h); exact ⟨⟨by omega, by omega⟩, by omega⟩))
  have U5 := Lib.hid (hst.mono (ok' := fun b => (b ≠ pb ∧ b ≠ w4.heap.size) ∧ w.heap.size < b) (fun b _ h => by have h : _ ≤ b := h; (try simp at h); exact ⟨⟨by omega, by omega⟩, by omega⟩))
  have V5 := Lib.hid (Gr.refl (fun b => b ≠ pb ∧ b ≠ w4.heap.size) w5)
  clear hrk hst
  have hy5 := Y5.out.lt
  have y15 := Y5.out.cell 15 _ rfl
  have yf15 := Y5.out.frz 15 (by simp)
  obtain ⟨As, hAs⟩ : ∃ A, A = A5 := ⟨_, rfl⟩
  injection h with h
  subst h
  have G5b := Lib.hid ((G5.out).setCell (p := ⟨w4.heap.size, 15, none⟩) (Or.inl (by simp; omega)) (.slice A5 m5 n5))
  have S5b := Lib.hid (S5.out.gr ((Gr.refl (· ≤ pb) w5).setCell (p := ⟨w4.heap.size, 15, none⟩) (Or.inr (by simp; omega)) (.slice A5 m5 n5)))
  have K5b := Lib.hid ((Gr.refl (w4.heap.size < ·) w5).setCell (p := ⟨w4.heap.size, 15, none⟩) (Or.inr (by simp)) (.slice A5 m5 n5))
  have J5b := Lib.hid ((Gr.refl (· ≠ w4.heap.size) w5).setCell (p := ⟨w4.heap.size, 15, none⟩) (Or.inr (by simp)) (.slice A5 m5 n5))
  have Y5b := Lib.hid ((Y5.out).set 15 (.slice A5 m5 n5) (by simp))
  have R5b := Lib.hid ((R5.out).off ⟨w4.heap.size, 15, none⟩ (.slice A5 m5 n5) (by simp; omega))
  have Q5b := Lib.hid (Q5.out.trans (J5b.out.mono fun _ _ h => h.2))
  have V5b := Lib.hid (V5.out.trans (J5b.out.mono fun _ _ h => h.2))
  have Ye := Lib.hid (show Has (w5.setCell ⟨w4.heap.size, 15, none⟩ (.slice A5 m5 n5)) w4.heap.size #[.int .i64 4, .string ⟨#[]⟩, .slice none 0 0, .int .i64 a4.op, .string ⟨a4.text.toArray⟩, .int .i64 a4.ty, .slice A4 m4 n4, .int .i64 0, .string ⟨#[]⟩, .int .i64 0, .slice none 0 0, .int .i64 0, .string ⟨#[]⟩, .int .i64 0, .slice none 0 0, .slice A5 m5 n5, .slice none 0 0] by have := Y5b.out; simpa using this)
  have XE := Lib.hid ((X4.out.gr (Q5b.out.mono fun _ _ h => h.1)).mono (ok' := (w.heap.size + 1 ≤ ·)) fun b _ h => h.2)
  have XT := Lib.hid ((T5.out.gr (V5b.out.mono fun _ _ h => h.1)).mono (ok' := (w.heap.size + 1 ≤ ·)) fun b _ h => h.2)
  have XU := Lib.hid ((U5.out.gr (V5b.out.mono fun _ _ h => h.1)).mono (ok' := (w.heap.size + 1 ≤ ·)) fun b _ h => h.2)
  have HE := Lib.hid (show rdS (w.heap.size + 1) (.mk 4 [] [] a4 .no .no a5 []) (.agg #[.int .i64 4, .string ⟨#[]⟩, .slice none 0 0, .int .i64 a4.op, .string ⟨a4.text.toArray⟩, .int .i64 a4.ty, .slice A4 m4 n4, .int .i64 0, .string ⟨#[]⟩, .int .i64 0, .slice none 0 0, .int .i64 0, .string ⟨#[]⟩, .int .i64 0, .slice none 0 0, .slice A5 m5 n5, .slice none 0 0]) (w5.setCell ⟨w4.heap.size, 15, none⟩ (.slice A5 m5 n5)) from ⟨none, 0, 0, A4, m4, n4, none, 0, 0, none, 0, 0, A5, m5, n5, none, 0, 0, rfl, stC_mk 4 [] (rdk0 _ _ _) (exs0 _ _) XE.out (exC_no _ _) (exC_no _ _) XT.out XU.out (rdk0 _ _ _) (sts0 _ _)⟩)
  have Yz5b := Ye
  go_wp2_with (first | (refine wpList_loadHas rfl _ _ rfl w4.heap.size rfl _ Yz5b.out _ Tryz.underlying66 rfl 17 rfl (by kernel_rfl) ?_) | (refine wpList_storeHas rfl _ _ _ rfl w.heap.size 0 _ rfl rfl _ R5b.out #[.int .i64 4, .string ⟨#[]⟩, .slice none 0 0, .int .i64 a4.op, .string ⟨a4.text.toArray⟩, .int .i64 a4.ty, .slice A4 m4 n4, .int .i64 0, .string ⟨#[]⟩, .int .i64 0, .slice none 0 0, .int .i64 0, .string ⟨#[]⟩, .int .i64 0, .slice none 0 0, .slice A5 m5 n5, .slice none 0 0] rfl 17 17 rfl rfl (by decide) (by kernel_rfl) rfl ?_; intro wf hY hG hq; clear hq; have Rf := Lib.hid hY; have Kf := Lib.hid hG; clear hY hG))
  try simp only [Exit.inBlock, Exit.then]
  refine bodyPost_ret (results_has rfl _ _ w.heap.size _ _ rfl Rf.out Tryz.underlying66 rfl 17 rfl (by kernel_rfl)) rfl ?_
  refine pendS hlt G5b.out S5b.out _ _ HE.out Kf.out
end

/-! An assignment is parsed. -/
section
set_option linter.unusedVariables false
set_option linter.unusedSimpArgs false
open Go.RowKit

theorem exs_one {ok : Nat → Prop} {w : World} {e : Ex} {x0 x1 x2 x3 : Value} (E : ExC ok w e [x0, x1, x2, x3]) (T : TypeId) {B : Nat} (hB : B = w.heap.size) (hok : ok B) :
    RdK ok (w.alloc (.cells #[x0, x1, x2, x3] T)) (.slice (some ⟨B, 0, none⟩) 1 1) [e].length 4 [x0, x1, x2, x3] ∧ ExsC ok (w.alloc (.cells #[x0, x1, x2, x3] T)) [e] [x0, x1, x2, x3] := by
  refine ⟨?_, by simp only [ExsC]; exact ⟨[x0, x1, x2, x3], [], rfl, E.gr (Gr.of_below _ (bel_alloc _ _)), rfl⟩⟩
  obtain ⟨h1, h2, h3⟩ := rd_newB w #[x0, x1, x2, x3] T B 1 4 hB rfl (by omega) (by omega)
  refine ⟨h1, h2, ?_⟩
  rcases h3 with ⟨h, _⟩ | ⟨b, off, c, hv, hle, hlt, hc⟩
  · omega
  · refine Or.inr ⟨b, off, c, hv, hle, ?_, hlt, hc⟩
    injection hv with hv
    injection hv with hv
    injection hv with hv
    subst hv
    exact hok
set_option maxHeartbeats 4000000 in
theorem stmt_assign (f pb : Nat) (s0 : PS) (w : World) (r : Res St) (hs : PSt w pb s0) (hb1 : isOf [[114, 101, 97, 100]] s0 = false) (hb2 : isOf [[105, 102]] s0 = false) (hb3 : isOf [[119, 104, 105, 108, 101]] s0 = false) (h : pStmt (f + 1) s0 = some r) :
    Calls Tryz.prog 58 #[.pointer (some ⟨pb, 0, none⟩)] w (PEnd w pb r (rdS w.heap.size)) := by
  have hlt := hs.lt
  have G0 := Lib.hid (Gr.refl (· ≠ pb) (w.alloc (.cells zS 66)))
  have R0 := Lib.hid (Has.new w zS 66 rfl)
  have S0 := Lib.hid hs
  simp only [zS] at G0 R0
  clear hs
  unfold pStmt at h
  have HB1 := Lib.hid hb1
  have HB2 := Lib.hid hb2
  have HB3 := Lib.hid hb3
  clear hb1 hb2 hb3
  rw [bind_eat] at h
  have B1 := Lib.hid h
  clear h
  go_enter Tryz.func58, Tryz.ntmps58
  go_wp2_with fail
  refine (eat_text pb s0 _ (S0.out.below (by go_grown)) [114, 101, 97, 100]).mono ?_
  rintro e w1 ⟨rfl, hs, hg⟩
  have h := B1.out
  rw [HB1.out] at h ⊢
  rw [eatS_no HB1.out] at h hs
  simp only [if_neg (show ¬ (false = true) by simp)] at h
  have S1 := Lib.hid hs
  have G1 := Lib.hid (G0.out.step (by go_grown) hg)
  have R1 := Lib.hid ((R0.out.below (by go_grown)).gr hg (by omega))
  clear hs hg
  try clear hz
  have hz : w.heap.size < w1.heap.size := by have := G1.out.size; simp at this; omega
  rw [bind_eat] at h
  have B2 := Lib.hid h
  clear h
  go_wp2_with fail
  refine (eat_text pb s0 _ (S1.out.below (by go_grown)) [105, 102]).mono ?_
  rintro e w2 ⟨rfl, hs, hg⟩
  have h := B2.out
  rw [HB2.out] at h ⊢
  rw [eatS_no HB2.out] at h hs
  simp only [if_neg (show ¬ (false = true) by simp)] at h
  have S2 := Lib.hid hs
  have G2 := Lib.hid (G1.out.step (by go_grown) hg)
  have R2 := Lib.hid ((R1.out.below (by go_grown)).gr hg (by omega))
  clear hs hg
  try clear hz
  have hz : w.heap.size < w2.heap.size := by have := G2.out.size; simp at this; omega
  rw [bind_eat] at h
  have B3 := Lib.hid h
  clear h
  go_wp2_with fail
  refine (eat_text pb s0 _ (S2.out.below (by go_grown)) [119, 104, 105, 108, 101]).mono ?_
  rintro e w3 ⟨rfl, hs, hg⟩
  have h := B3.out
  rw [HB3.out] at h ⊢
  rw [eatS_no HB3.out] at h hs
  simp only [if_neg (show ¬ (false = true) by simp)] at h
  have S3 := Lib.hid hs
  have G3 := Lib.hid (G2.out.step (by go_grown) hg)
  have R3 := Lib.hid ((R2.out.below (by go_grown)).gr hg (by omega))
  clear hs hg
  try clear hz
  have hz : w.heap.size < w3.heap.size := by have := G3.out.size; simp at this; omega
  obtain ⟨q4, hq, h⟩ := P.bind_some h
  have Hq4 := Lib.hid hq
  have H4 := Lib.hid h
  clear hq h
  go_wp2_with fail
  refine (take_calls pb s0 _ (S3.out.below (by go_grown)) _ [1] (rd_k1 _ 1 _ (by simp)) (by decide) q4 Hq4.out).mono ?_
  rintro e w4 he
  rcases H4.out with ⟨n, rfl, rfl⟩ | ⟨a4, s4, rfl, h⟩
  · obtain ⟨rfl, hg⟩ := he
    have G4 := Lib.hid (G3.out.step (by go_grown) hg)
    clear hg
    go_wp2_with fail
    exact ⟨rfl, rfl, G4.out.pre⟩
  obtain ⟨_, rfl, rfl, hs, hg⟩ := he
  have S4 := Lib.hid hs
  have G4 := Lib.hid (G3.out.step (by go_grown) hg)
  have R4 := Lib.hid ((R3.out.below (by go_grown)).gr hg (by omega))
  clear hs hg
  try clear hz
  have hz : w.heap.size < w4.heap.size := by have := G4.out.size; simp at this; omega
  rw [bind_eat] at h
  have B5 := Lib.hid h
  clear h
  have hyl : w.heap.size < w4.heap.size := hz
  have Y4 := Lib.hid (Has.new w4 #[.int .i64 1, .string ⟨a4.toArray⟩, .slice none 0 0, .int .i64 0, .string ⟨#[]⟩, .int .i64 0, .slice none 0 0, .int .i64 0, .string ⟨#[]⟩, .int .i64 0, .slice none 0 0, .int .i64 0, .string ⟨#[]⟩, .int .i64 0, .slice none 0 0, .slice none 0 0, .slice none 0 0] 66 rfl)
  go_wp2_with fail
  refine (eat_text pb s4 _ (S4.out.below (by go_grown)) [91]).mono ?_
  rintro e w5 ⟨rfl, hs, hg⟩
  have h := B5.out
  generalize hbq : isOf [[91]] s4 = b at h ⊢
  have Hb5 := Lib.hid hbq
  clear hbq
  generalize eatS [91] s4 = s5 at h hs
  have S5 := Lib.hid hs
  have G5 := Lib.hid (G4.out.step (by go_grown) hg)
  have R5 := Lib.hid ((R4.out.below (by go_grown)).gr hg (by omega))
  have Y5 := Lib.hid ((Y4.out.below (by go_grown)).gr hg (by omega))
  clear hs hg
  try clear hz
  have hz : w.heap.size < w5.heap.size := by have := G5.out.size; simp at this; omega
  cases b with
  | true =>
    simp only [if_true] at h
    obtain ⟨q6, hq, h⟩ := P.bind_some h
    have Hq6 := Lib.hid hq
    have H6 := Lib.hid h
    clear hq h
    have hy5 := Y5.out.lt
    go_wp2_with fail
    refine (expr_calls f 0 pb s5 _ q6 (by omega) (S5.out.below (by go_grown)) Hq6.out).mono ?_
    rintro e w6 he
    rcases H6.out with ⟨n, rfl, rfl⟩ | ⟨a6, s6, rfl, h⟩
    · obtain ⟨rfl, hg⟩ := he
      have G6 := Lib.hid (G5.out.step (by go_grown) hg)
      clear hg
      go_wp2_with fail
      exact ⟨rfl, rfl, G6.out.pre⟩
    obtain ⟨_, rfl, ⟨A6, m6, n6, rfl, he⟩, hs, hg⟩ := he
    have S6 := Lib.hid hs
    have G6 := Lib.hid (G5.out.step (by go_grown) hg)
    have R6 := Lib.hid ((R5.out.below (by go_grown)).gr hg (by omega))
    have Y6 := Lib.hid ((Y5.out.below (by go_grown)).gr hg (by omega))
    have E6 := Lib.hid (he.mono (ok' := (w4.heap.size < ·)) (fun b _ hb => by have := G5.out.size; simp at hb this ⊢; omega))
    clear he
    clear hs hg
    try clear hz
    have hz : w.heap.size < w6.heap.size := by have := G6.out.size; simp at this; omega
    obtain ⟨q7, hq, h⟩ := P.bind_some h
    have Hq7 := Lib.hid hq
    have H7 := Lib.hid h
    clear hq h
    have hy6 := Y6.out.lt
    have y2 := Y6.out.cell 2 _ rfl
    have yf2 := Y6.out.frz 2 (by simp)
    have E6q := Lib.hid (E6.out.mono (ok' := fun b => (b ≠ pb ∧ b ≠ w4.heap.size) ∧ w.heap.size < b) (fun b hb h => by have h : w4.heap.size < b := h; exact ⟨⟨by omega, by omega⟩, by omega⟩))
    go_wp2_with fail
    have G6b := Lib.hid (((G6.out).setCell (p := ⟨w4.heap.size, 2, none⟩) (Or.inl (by simp; omega)) (.slice (some ⟨w6.heap.size, 0, none⟩) 1 1)).alloc (.cells #[.int .i64 a6.op, .string ⟨a6.text.toArray⟩, .int .i64 a6.ty, .slice A6 m6 n6] 64))
    have S6b := Lib.hid (S6.out.gr (((Gr.refl (· ≤ pb) w6).setCell (p := ⟨w4.heap.size, 2, none⟩) (Or.inr (by simp; omega)) (.slice (some ⟨w6.heap.size, 0, none⟩) 1 1)).alloc (.cells #[.int .i64 a6.op, .string ⟨a6.text.toArray⟩, .int .i64 a6.ty, .slice A6 m6 n6] 64)))
    have K6b := Lib.hid (((Gr.refl (w4.heap.size < ·) w6).setCell (p := ⟨w4.heap.size, 2, none⟩) (Or.inr (by simp)) (.slice (some ⟨w6.heap.size, 0, none⟩) 1 1)).alloc (.cells #[.int .i64 a6.op, .string ⟨a6.text.toArray⟩, .int .i64 a6.ty, .slice A6 m6 n6] 64))
    have J6b := Lib.hid (((Gr.refl (· ≠ w4.heap.size) w6).setCell (p := ⟨w4.heap.size, 2, none⟩) (Or.inr (by simp)) (.slice (some ⟨w6.heap.size, 0, none⟩) 1 1)).alloc (.cells #[.int .i64 a6.op, .string ⟨a6.text.toArray⟩, .int .i64 a6.ty, .slice A6 m6 n6] 64))
    have Y6b := Lib.hid (((Y6.out).set 2 (.slice (some ⟨w6.heap.size, 0, none⟩) 1 1) (by simp)).below (bel_alloc _ (.cells #[.int .i64 a6.op, .string ⟨a6.text.toArray⟩, .int .i64 a6.ty, .slice A6 m6 n6] 64)))
    have R6b := Lib.hid (((R6.out).off ⟨w4.heap.size, 2, none⟩ (.slice (some ⟨w6.heap.size, 0, none⟩) 1 1) (by simp; omega)).below (bel_alloc _ (.cells #[.int .i64 a6.op, .string ⟨a6.text.toArray⟩, .int .i64 a6.ty, .slice A6 m6 n6] 64)))
    have HI := exs_one (E6q.out.gr (((Gr.refl _ w6).setCell (p := ⟨w4.heap.size, 2, none⟩) (Or.inr (by simp)) (.slice (some ⟨w6.heap.size, 0, none⟩) 1 1)))) 64 (B := w6.heap.size) (by simp) ⟨⟨by omega, by omega⟩, by omega⟩
    have I6 := Lib.hid HI.1
    have J6 := Lib.hid HI.2
    clear HI y2 yf2
    have Q6b := Lib.hid (Gr.refl (fun b => b ≠ pb ∧ b ≠ w4.heap.size) ((w6.setCell ⟨w4.heap.size, 2, none⟩ (.slice (some ⟨w6.heap.size, 0, none⟩) 1 1)).alloc (.cells #[.int .i64 a6.op, .string ⟨a6.text.toArray⟩, .int .i64 a6.ty, .slice A6 m6 n6] 64)))
    refine (must_calls pb s6 _ (S6b.out.below (by go_grown)) _ [[93]] (rdk_t1 _ [93] _ (by simp) (by omega)) q7 Hq7.out).mono ?_
    rintro e w7 he
    rcases H7.out with ⟨n, rfl, rfl⟩ | ⟨a7, s7, rfl, h⟩
    · obtain ⟨rfl, hg⟩ := he
      have G7 := Lib.hid (G6b.out.step (by go_grown) hg)
      clear hg
      go_wp2_with fail
      exact ⟨rfl, rfl, G7.out.pre⟩
    obtain ⟨_, rfl, rfl, hs, hg⟩ := he
    have S7 := Lib.hid hs
    have G7 := Lib.hid (G6b.out.step (by go_grown) hg)
    have R7 := Lib.hid ((R6b.out.below (by go_grown)).gr hg (by omega))
    have Y7 := Lib.hid ((Y6b.out.below (by go_grown)).gr hg (by omega))
    have Q7 := Lib.hid ((Q6b.out.trans (Gr.of_below _ (by go_grown))).trans (hg.mono fun _ _ h => h.1))
    clear hs hg
    try clear hz
    have hz : w.heap.size < w7.heap.size := by have := G7.out.size; simp at this; omega
    obtain ⟨q8, hq, h⟩ := P.bind_some h
    have Hq8 := Lib.hid hq
    have H8 := Lib.hid h
    clear hq h
    go_wp2_with fail
    refine (must_calls pb s7 _ (S7.out.below (by go_grown)) _ [[61]] (rdk_t1 _ [61] _ (by simp) (by omega)) q8 Hq8.out).mono ?_
    rintro e w8 he
    rcases H8.out with ⟨n, rfl, rfl⟩ | ⟨a8, s8, rfl, h⟩
    · obtain ⟨rfl, hg⟩ := he
      have G8 := Lib.hid (G7.out.step (by go_grown) hg)
      clear hg
      go_wp2_with fail
      exact ⟨rfl, rfl, G8.out.pre⟩
    obtain ⟨_, rfl, rfl, hs, hg⟩ := he
    have S8 := Lib.hid hs
    have G8 := Lib.hid (G7.out.step (by go_grown) hg)
    have R8 := Lib.hid ((R7.out.below (by go_grown)).gr hg (by omega))
    have Y8 := Lib.hid ((Y7.out.below (by go_grown)).gr hg (by omega))
    have Q8 := Lib.hid ((Q7.out.trans (Gr.of_below _ (by go_grown))).trans (hg.mono fun _ _ h => h.1))
    clear hs hg
    try clear hz
    have hz : w.heap.size < w8.heap.size := by have := G8.out.size; simp at this; omega
    obtain ⟨q9, hq, h⟩ := P.bind_some h
    have Hq9 := Lib.hid hq
    have H9 := Lib.hid h
    clear hq h
    have hy8 := Y8.out.lt
    go_wp2_with fail
    refine (expr_calls f 0 pb s8 _ q9 (by omega) (S8.out.below (by go_grown)) Hq9.out).mono ?_
    rintro e w9 he
    rcases H9.out with ⟨n, rfl, rfl⟩ | ⟨a9, s9, rfl, h⟩
    · obtain ⟨rfl, hg⟩ := he
      have G9 := Lib.hid (G8.out.step (by go_grown) hg)
      clear hg
      go_wp2_with fail
      exact ⟨rfl, rfl, G9.out.pre⟩
    obtain ⟨_, rfl, ⟨A9, m9, n9, rfl, he⟩, hs, hg⟩ := he
    have S9 := Lib.hid hs
    have G9 := Lib.hid (G8.out.step (by go_grown) hg)
    have R9 := Lib.hid ((R8.out.below (by go_grown)).gr hg (by omega))
    have Y9 := Lib.hid ((Y8.out.below (by go_grown)).gr hg (by omega))
    have Q9 := Lib.hid ((Q8.out.trans (Gr.of_below _ (by go_grown))).trans (hg.mono fun _ _ h => h.1))
    have E9 := Lib.hid (he.mono (ok' := (w4.heap.size < ·)) (fun b _ hb => by have := G8.out.size; simp at hb this ⊢; omega))
    clear he
    clear hs hg
    try clear hz
    have hz : w.heap.size < w9.heap.size := by have := G9.out.size; simp at this; omega
    obtain ⟨q10, hq, h⟩ := P.bind_some h
    have Hq10 := Lib.hid hq
    have H10 := Lib.hid h
    clear hq h
    have hy9 := Y9.out.lt
    have Y9 := Lib.hid (show Has w9 w4.heap.size #[.int .i64 1, .string ⟨a4.toArray⟩, .slice (some ⟨w6.heap.size, 0, none⟩) 1 1, .int .i64 0, .string ⟨#[]⟩, .int .i64 0, .slice none 0 0, .int .i64 0, .string ⟨#[]⟩, .int .i64 0, .slice none 0 0, .int .i64 0, .string ⟨#[]⟩, .int .i64 0, .slice none 0 0, .slice none 0 0, .slice none 0 0] by have := Y9.out; simpa using this)
    go_wp2_with (first | (refine wpList_storeHas rfl _ _ _ rfl w4.heap.size 3 _ rfl rfl _ Y9.out #[.int .i64 1, .string ⟨a4.toArray⟩, .slice (some ⟨w6.heap.size, 0, none⟩) 1 1, .int .i64 a9.op, .string ⟨a9.text.toArray⟩, .int .i64 a9.ty, .slice A9 m9 n9, .int .i64 0, .string ⟨#[]⟩, .int .i64 0, .slice none 0 0, .int .i64 0, .string ⟨#[]⟩, .int .i64 0, .slice none 0 0, .slice none 0 0, .slice none 0 0] rfl 4 17 rfl rfl (by decide) (by kernel_rfl) rfl ?_; intro w9b hY hG hq; have hsz9b := Nat.le_of_eq hq.symm; clear hq; have Y9b := Lib.hid hY; have K9b := Lib.hid hG; clear hY hG))
    have G9b := Lib.hid (G9.out.later K9b.out (fun b hb h => by have hb : b < w.heap.size + 1 := (by simpa using hb); show b ≠ _; omega))
    have S9b := Lib.hid (S9.out.gr (K9b.out.mono fun b _ h => by show b ≠ _; have h : b ≤ pb := h; omega))
    have R9b := Lib.hid (R9.out.gr K9b.out (by show _ ≠ _; omega))
    have Q9b := Lib.hid (Q9.out.trans (K9b.out.mono fun _ _ h => h.2))
    have E9k9b := Lib.hid (E9.out.gr (K9b.out.mono fun b _ h => by show b ≠ _; have h : _ < b := h; omega))
    refine (must_calls pb s9 _ (S9b.out.below (by go_grown)) _ [[59]] (rdk_t1 _ [59] _ (by simp) (by omega)) q10 Hq10.out).mono ?_
    rintro e w10 he
    rcases H10.out with ⟨n, rfl, rfl⟩ | ⟨a10, s10, rfl, h⟩
    · obtain ⟨rfl, hg⟩ := he
      have G10 := Lib.hid (G9b.out.step (by go_grown) hg)
      clear hg
      go_wp2_with fail
      exact ⟨rfl, rfl, G10.out.pre⟩
    obtain ⟨_, rfl, rfl, hs, hg⟩ := he
    have S10 := Lib.hid hs
    have G10 := Lib.hid (G9b.out.step (by go_grown) hg)
    have R10 := Lib.hid ((R9b.out.below (by go_grown)).gr hg (by omega))
    have Y10 := Lib.hid ((Y9b.out.below (by go_grown)).gr hg (by omega))
    have Q10 := Lib.hid ((Q9b.out.trans (Gr.of_below _ (by go_grown))).trans (hg.mono fun _ _ h => h.1))
    have E9k9bx10 := Lib.hid ((E9k9b.out.gr (Gr.of_below _ (by go_grown))).gr (hg.mono fun b hb hb' => by omega))
    clear hs hg
    try clear hz
    have hz : w.heap.size < w10.heap.size := by have := G10.out.size; simp at this; omega
    injection h with h
    subst h
    have XE := Lib.hid (E9k9bx10.out.mono (ok' := (w.heap.size + 1 ≤ ·)) fun b _ h => by have h : w4.heap.size < b := h; show w.heap.size + 1 ≤ b; omega)
    have XI := Lib.hid ((I6.out.gr (Q10.out.mono fun _ _ h => h.1)).mono (ok' := (w.heap.size + 1 ≤ ·)) fun b _ h => h.2)
    have XJ := Lib.hid ((J6.out.gr (Q10.out.mono fun _ _ h => h.1)).mono (ok' := (w.heap.size + 1 ≤ ·)) fun b _ h => h.2)
    have HE := Lib.hid (show rdS (w.heap.size + 1) (.mk 1 a4 [a6] a9 .no .no [] []) (.agg #[.int .i64 1, .string ⟨a4.toArray⟩, .slice (some ⟨w6.heap.size, 0, none⟩) 1 1, .int .i64 a9.op, .string ⟨a9.text.toArray⟩, .int .i64 a9.ty, .slice A9 m9 n9, .int .i64 0, .string ⟨#[]⟩, .int .i64 0, .slice none 0 0, .int .i64 0, .string ⟨#[]⟩, .int .i64 0, .slice none 0 0, .slice none 0 0, .slice none 0 0]) w10 from ⟨some ⟨w6.heap.size, 0, none⟩, 1, 1, A9, m9, n9, none, 0, 0, none, 0, 0, none, 0, 0, none, 0, 0, rfl, stC_mk 1 a4 XI.out XJ.out XE.out (exC_no _ _) (exC_no _ _) (rdk0 _ _ _) (sts0 _ _) (rdk0 _ _ _) (sts0 _ _)⟩)
    go_wp2_with (first | (refine wpList_loadHas rfl _ _ rfl w4.heap.size rfl _ Y10.out _ Tryz.underlying66 rfl 17 rfl (by kernel_rfl) ?_) | (refine wpList_storeHas rfl _ _ _ rfl w.heap.size 0 _ rfl rfl _ R10.out #[.int .i64 1, .string ⟨a4.toArray⟩, .slice (some ⟨w6.heap.size, 0, none⟩) 1 1, .int .i64 a9.op, .string ⟨a9.text.toArray⟩, .int .i64 a9.ty, .slice A9 m9 n9, .int .i64 0, .string ⟨#[]⟩, .int .i64 0, .slice none 0 0, .int .i64 0, .string ⟨#[]⟩, .int .i64 0, .slice none 0 0, .slice none 0 0, .slice none 0 0] rfl 17 17 rfl rfl (by decide) (by kernel_rfl) rfl ?_; intro wf hY hG hq; clear hq; have Rf := Lib.hid hY; have Kf := Lib.hid hG; clear hY hG))
    try simp only [Exit.inBlock, Exit.then]
    refine bodyPost_ret (results_has rfl _ _ w.heap.size _ _ rfl Rf.out Tryz.underlying66 rfl 17 rfl (by kernel_rfl)) rfl ?_
    refine pendS hlt G10.out S10.out _ _ HE.out Kf.out
  | false =>
    simp only [if_neg (show ¬ (false = true) by simp)] at h
    obtain ⟨q8, hq, h⟩ := P.bind_some h
    have Hq8 := Lib.hid hq
    have H8 := Lib.hid h
    clear hq h
    go_wp2_with fail
    refine (must_calls pb s5 _ (S5.out.below (by go_grown)) _ [[61]] (rdk_t1 _ [61] _ (by simp) (by omega)) q8 Hq8.out).mono ?_
    rintro e w8 he
    rcases H8.out with ⟨n, rfl, rfl⟩ | ⟨a8, s8, rfl, h⟩
    · obtain ⟨rfl, hg⟩ := he
      have G8 := Lib.hid (G5.out.step (by go_grown) hg)
      clear hg
      go_wp2_with fail
      exact ⟨rfl, rfl, G8.out.pre⟩
    obtain ⟨_, rfl, rfl, hs, hg⟩ := he
    have S8 := Lib.hid hs
    have G8 := Lib.hid (G5.out.step (by go_grown) hg)
    have R8 := Lib.hid ((R5.out.below (by go_grown)).gr hg (by omega))
    have Y8 := Lib.hid ((Y5.out.below (by go_grown)).gr hg (by omega))
    clear hs hg
    try clear hz
    have hz : w.heap.size < w8.heap.size := by have := G8.out.size; simp at this; omega
    obtain ⟨q9, hq, h⟩ := P.bind_some h
    have Hq9 := Lib.hid hq
    have H9 := Lib.hid h
    clear hq h
    have hy8 := Y8.out.lt
    go_wp2_with fail
    refine (expr_calls f 0 pb s8 _ q9 (by omega) (S8.out.below (by go_grown)) Hq9.out).mono ?_
    rintro e w9 he
    rcases H9.out with ⟨n, rfl, rfl⟩ | ⟨a9, s9, rfl, h⟩
    · obtain ⟨rfl, hg⟩ := he
      have G9 := Lib.hid (G8.out.step (by go_grown) hg)
      clear hg
      go_wp2_with fail
      exact ⟨rfl, rfl, G9.out.pre⟩
    obtain ⟨_, rfl, ⟨A9, m9, n9, rfl, he⟩, hs, hg⟩ := he
    have S9 := Lib.hid hs
    have G9 := Lib.hid (G8.out.step (by go_grown) hg)
    have R9 := Lib.hid ((R8.out.below (by go_grown)).gr hg (by omega))
    have Y9 := Lib.hid ((Y8.out.below (by go_grown)).gr hg (by omega))
    have E9 := Lib.hid (he.mono (ok' := (w4.heap.size < ·)) (fun b _ hb => by have := G8.out.size; simp at hb this ⊢; omega))
    clear he
    clear hs hg
    try clear hz
    have hz : w.heap.size < w9.heap.size := by have := G9.out.size; simp at this; omega
    obtain ⟨q10, hq, h⟩ := P.bind_some h
    have Hq10 := Lib.hid hq
    have H10 := Lib.hid h
    clear hq h
    have hy9 := Y9.out.lt
    have Y9 := Lib.hid (show Has w9 w4.heap.size #[.int .i64 1, .string ⟨a4.toArray⟩, .slice none 0 0, .int .i64 0, .string ⟨#[]⟩, .int .i64 0, .slice none 0 0, .int .i64 0, .string ⟨#[]⟩, .int .i64 0, .slice none 0 0, .int .i64 0, .string ⟨#[]⟩, .int .i64 0, .slice none 0 0, .slice none 0 0, .slice none 0 0] by have := Y9.out; simpa using this)
    go_wp2_with (first | (refine wpList_storeHas rfl _ _ _ rfl w4.heap.size 3 _ rfl rfl _ Y9.out #[.int .i64 1, .string ⟨a4.toArray⟩, .slice none 0 0, .int .i64 a9.op, .string ⟨a9.text.toArray⟩, .int .i64 a9.ty, .slice A9 m9 n9, .int .i64 0, .string ⟨#[]⟩, .int .i64 0, .slice none 0 0, .int .i64 0, .string ⟨#[]⟩, .int .i64 0, .slice none 0 0, .slice none 0 0, .slice none 0 0] rfl 4 17 rfl rfl (by decide) (by kernel_rfl) rfl ?_; intro w9b hY hG hq; have hsz9b := Nat.le_of_eq hq.symm; clear hq; have Y9b := Lib.hid hY; have K9b := Lib.hid hG; clear hY hG))
    have G9b := Lib.hid (G9.out.later K9b.out (fun b hb h => by have hb : b < w.heap.size + 1 := (by simpa using hb); show b ≠ _; omega))
    have S9b := Lib.hid (S9.out.gr (K9b.out.mono fun b _ h => by show b ≠ _; have h : b ≤ pb := h; omega))
    have R9b := Lib.hid (R9.out.gr K9b.out (by show _ ≠ _; omega))
    have E9k9b := Lib.hid (E9.out.gr (K9b.out.mono fun b _ h => by show b ≠ _; have h : _ < b := h; omega))
    refine (must_calls pb s9 _ (S9b.out.below (by go_grown)) _ [[59]] (rdk_t1 _ [59] _ (by simp) (by omega)) q10 Hq10.out).mono ?_
    rintro e w10 he
    rcases H10.out with ⟨n, rfl, rfl⟩ | ⟨a10, s10, rfl, h⟩
    · obtain ⟨rfl, hg⟩ := he
      have G10 := Lib.hid (G9b.out.step (by go_grown) hg)
      clear hg
      go_wp2_with fail
      exact ⟨rfl, rfl, G10.out.pre⟩
    obtain ⟨_, rfl, rfl, hs, hg⟩ := he
    have S10 := Lib.hid hs
    have G10 := Lib.hid (G9b.out.step (by go_grown) hg)
    have R10 := Lib.hid ((R9b.out.below (by go_grown)).gr hg (by omega))
    have Y10 := Lib.hid ((Y9b.out.below (by go_grown)).gr hg (by omega))
    have E9k9bx10 := Lib.hid ((E9k9b.out.gr (Gr.of_below _ (by go_grown))).gr (hg.mono fun b hb hb' => by omega))
    clear hs hg
    try clear hz
    have hz : w.heap.size < w10.heap.size := by have := G10.out.size; simp at this; omega
    injection h with h
    subst h
    have XE := Lib.hid (E9k9bx10.out.mono (ok' := (w.heap.size + 1 ≤ ·)) fun b _ h => by have h : w4.heap.size < b := h; show w.heap.size + 1 ≤ b; omega)
    have HE := Lib.hid (show rdS (w.heap.size + 1) (.mk 1 a4 [] a9 .no .no [] []) (.agg #[.int .i64 1, .string ⟨a4.toArray⟩, .slice none 0 0, .int .i64 a9.op, .string ⟨a9.text.toArray⟩, .int .i64 a9.ty, .slice A9 m9 n9, .int .i64 0, .string ⟨#[]⟩, .int .i64 0, .slice none 0 0, .int .i64 0, .string ⟨#[]⟩, .int .i64 0, .slice none 0 0, .slice none 0 0, .slice none 0 0]) w10 from ⟨none, 0, 0, A9, m9, n9, none, 0, 0, none, 0, 0, none, 0, 0, none, 0, 0, rfl, stC_mk 1 a4 (rdk0 _ _ _) (exs0 _ _) XE.out (exC_no _ _) (exC_no _ _) (rdk0 _ _ _) (sts0 _ _) (rdk0 _ _ _) (sts0 _ _)⟩)
    go_wp2_with (first | (refine wpList_loadHas rfl _ _ rfl w4.heap.size rfl _ Y10.out _ Tryz.underlying66 rfl 17 rfl (by kernel_rfl) ?_) | (refine wpList_storeHas rfl _ _ _ rfl w.heap.size 0 _ rfl rfl _ R10.out #[.int .i64 1, .string ⟨a4.toArray⟩, .slice none 0 0, .int .i64 a9.op, .string ⟨a9.text.toArray⟩, .int .i64 a9.ty, .slice A9 m9 n9, .int .i64 0, .string ⟨#[]⟩, .int .i64 0, .slice none 0 0, .int .i64 0, .string ⟨#[]⟩, .int .i64 0, .slice none 0 0, .slice none 0 0, .slice none 0 0] rfl 17 17 rfl rfl (by decide) (by kernel_rfl) rfl ?_; intro wf hY hG hq; clear hq; have Rf := Lib.hid hY; have Kf := Lib.hid hG; clear hY hG))
    try simp only [Exit.inBlock, Exit.then]
    refine bodyPost_ret (results_has rfl _ _ w.heap.size _ _ rfl Rf.out Tryz.underlying66 rfl 17 rfl (by kernel_rfl)) rfl ?_
    refine pendS hlt G10.out S10.out _ _ HE.out Kf.out

theorem stmt_step (f : Nat) (ihB : CallsB f) : CallsS (f + 1) := by
  intro pb s w r hs h
  cases h1 : isOf [[114, 101, 97, 100]] s with
  | true => exact stmt_read f pb s w r hs h1 h
  | false =>
    cases h2 : isOf [[105, 102]] s with
    | true => exact stmt_if f pb ihB s w r hs h1 h2 h
    | false =>
      cases h3 : isOf [[119, 104, 105, 108, 101]] s with
      | true => exact stmt_while f pb ihB s w r hs h1 h2 h3 h
      | false => exact stmt_assign f pb s w r hs h1 h2 h3 h
end

/-! Blocks of statements; statements and blocks together. -/
section
set_option linter.unusedVariables false
set_option linter.unusedSimpArgs false
open Go.RowKit

/-- Where the row lies behind an append: where it lay, or in new memory. -/
theorem append_where {P : Program} {w : World} (base : Nat) (t ty e : TypeId) (i : TypeInfo) (z : Value) (ht : P.underlying t = some (.slice e)) (hi : P.info? e = some i) (hz : i.zero = some z) (hzs : z.cells.size = i.size)
    (v : Value) (n : Nat) (xs : List Value) (hown : w.ownsRow base e i.size v n xs) (a : Addr) (c : Nat) (news : List Value) (hl : news.length = 1 * i.size) (hnews : ∀ j u, news[j]? = some u → w.cell? (a.add j) = some u) (h1 : ∀ u ∈ news, u.oneCell' = true)
    (h63 : n + 1 ≤ maxLen) (hbytes : (n + 1) * i.bytes ≤ 140737488355328) {v' : Value} {w' : World} (hr : (Builtin.append_ #[t, t] ty #[v, .slice (some a) 1 c]).run P w = .ok v' w') :
    ∀ k, v'.ownBlock = some k → v.ownBlock = some k ∨ w.heap.size ≤ k := by
  have hsmall : n + 1 ≤ 9223372036854775807 := by simp only [maxLen] at h63; omega
  rcases hown.2 with ⟨rfl, rfl⟩ | ⟨g, cap, cur, rfl, hbg, hg, hnc, hcm, hcs, htake⟩
  · rw [run_append_nil (P := P) w t ty e i z ht hi hz a 1 c news hl hnews (by omega) (by omega) (by omega)] at hr
    injection hr with hv hw
    subst hv
    intro k hk
    right
    simp [Value.ownBlock] at hk
    omega
  · by_cases hroom : n + 1 ≤ cap
    · rw [run_append_room (P := P) w t ty e i ht hi g n cap cur hg a 1 c news hl hnews h1 hroom (by rw [hl, hcs, ← Nat.add_mul]; exact Nat.mul_le_mul_right _ hroom)] at hr
      injection hr with hv hw
      subst hv
      intro k hk
      left
      simpa [Value.ownBlock] using hk
    · rw [run_append_grow (P := P) w t ty e i z ht hi hz ⟨g, 0, none⟩ n cap xs hown.1 (hown.cells (g := g) rfl) a 1 c news hl hnews (by omega) (by omega) (growslice_fits (by omega) hbytes)] at hr
      injection hr with hv hw
      subst hv
      intro k hk
      right
      simp [Value.ownBlock] at hk
      omega
/-- 'xs = append(xs, x)' at a row of the call's own, x a literal of one element: and where the row lies then. -/
theorem append_lit2 (W : World) (news : Array Value) (e : TypeId) {P : Program} {ops : Array Oper} {rest : List Oper} {o : Oper} {a : Act} {Q : Exit → Act → World → Prop} (hgd : o.guard = none) (s x : Operand) (t : TypeId)
    (ho : o.op = .call { callee := .builtin .append, args := #[s, x], argTypes := #[t, t] })
    (base : Nat) (i : TypeInfo) (z : Value) (size bytes : Nat) (ht : P.underlying t = some (.slice e)) (hi : P.info? e = some i) (hz : i.zero = some z)
    (hsize : i.size = size) (hby : i.bytes = bytes) (hzs : z.cells.size = size) (hsz : 0 < size)
    (v : Value) (n : Nat) (xs : List Value) (hs : a.eval s = v) (hown : W.ownsRow base e size v n xs)
    (c B1 : Nat) (hx : a.eval x = .slice (some ⟨B1, 0, none⟩) 1 c) (hB1 : B1 = W.heap.size) (hl : news.size = size) (h1 : (news.toList.all fun u => u.oneCell') = true)
    (hn : n < 1048576) (hbytes : bytes ≤ 134217728) (hbase : base ≤ W.heap.size)
    (h : ∀ v' w', w'.ownsRow base e size v' (n + 1) (xs ++ news.toList) → W.grownBy w' v.ownBlock → (∀ k, v'.ownBlock = some k → v.ownBlock = some k ∨ W.heap.size ≤ k) → wpList P ops Q rest (a.put o.dst v') w') : wpList P ops Q (o :: rest) a (W.alloc (.cells news e)) := by
  subst hB1 hsize hby
  have hmul : (n + 1) * i.bytes ≤ 1048576 * 134217728 := Nat.mul_le_mul (by omega) hbytes
  have hnews : ∀ j u, news.toList[j]? = some u → (W.alloc (.cells news e)).cell? ((⟨W.heap.size, 0, none⟩ : Addr).add j) = some u := by
    intro j u hj
    rw [add_mk, Nat.zero_add, World.cell?_alloc_new]
    simpa using hj
  have h1' : ∀ u ∈ news.toList, u.oneCell' = true := fun u hu => List.all_eq_true.1 h1 u hu
  have h63 : n + 1 ≤ maxLen := by unfold maxLen; omega
  have hl' : news.toList.length = 1 * i.size := by simpa using hl
  obtain ⟨v', w', hr, h2, h3, _⟩ := run_append_own (P := P) (W.alloc (.cells news e)) base t o.type e i z i.size i.bytes ht hi hz rfl rfl hzs hsz v n xs (hown.alloc _) ⟨W.heap.size, 0, none⟩ 1 c news.toList hl' hnews h1' h63 (by omega) (by simp; omega)
  have hw := append_where (P := P) base t o.type e i z ht hi hz hzs v n xs (hown.alloc _) ⟨W.heap.size, 0, none⟩ c news.toList hl' hnews h1' h63 (by omega) hr
  have hg' : W.grownBy w' v.ownBlock := ⟨h3.os, h3.tape, h3.output, by have := h3.size; simp at this; omega, fun k hk hne => by
    rw [h3.block k (by simp; omega) hne, Below.heap_alloc _ _ _ hk]⟩
  refine wpList_plain hgd fun K hK => ?_
  unfold Oper.wp execOp
  simp only [ho, resolve, invoke, builtin, Sem.run_bind, Sem.run_pure, Result.andThen_ok, List.map_toArray, List.map_cons, List.map_nil, hs, hx, hr]
  exact hK _ _ (h v' w' h2 hg' (fun k hk => (hw k hk).imp id (fun h => by simp at h; omega)))

theorem Gr.grown_some {w w' : World} {pb : Nat} (h : Gr (· ≠ pb) w w') : w.grownBy w' (some pb) := ⟨h.os, h.tape, h.output, h.size, fun k hk hne => h.block k hk (by rintro rfl; exact hne rfl)⟩
theorem own_gr {w w' : World} {base : Nat} {e : TypeId} {size n : Nat} {v : Value} {cells : List Value} {pb : Nat} (h : w.ownsRow base e size v n cells) (hg : Gr (· ≠ pb) w w') (hb : pb < base) : w'.ownsRow base e size v n cells :=
  h.kept hg.grown_some (by
    cases hv : v.ownBlock with
    | none => exact Or.inl rfl
    | some k => exact Or.inr (by intro e; injection e with e; have := (h.lt k hv).1; omega))
theorem stInfo : (Tryz.prog.info? 66).map (fun i => (i.zero, i.size, i.bytes)) = some (some (.agg zS), 17, 264) := by kernel_rfl

set_option maxHeartbeats 4000000 in
theorem block_step (f : Nat) (ihS : ∀ g, g ≤ f → CallsS g) : CallsB (f + 1) := by
  intro pb s0 w r hs h
  have hlt := hs.lt
  have hlen := hs.len
  have G0 := Lib.hid (Gr.refl (· ≠ pb) w)
  have S0 := Lib.hid hs
  clear hs
  unfold pBlock at h
  obtain ⟨i0, hi, hz0, hz1, hz2⟩ := info_parts stInfo
  have HI := Lib.hid (And.intro hi (And.intro hz0 (And.intro hz1 hz2)))
  clear hi hz0 hz1 hz2
  obtain ⟨q1, hq, h⟩ := P.bind_some h
  have Hq1 := Lib.hid hq
  have H1 := Lib.hid h
  clear hq h
  go_enter Tryz.func104, Tryz.ntmps104
  go_wp2_with fail
  refine (must_calls pb s0 _ (S0.out.below (by go_grown)) _ [[123]] (rdk_t1 _ [123] _ (by simp) (by omega)) q1 Hq1.out).mono ?_
  rintro e w1 he
  rcases H1.out with ⟨n, rfl, rfl⟩ | ⟨a1, s1, rfl, h⟩
  · obtain ⟨rfl, hg⟩ := he
    have G1 := Lib.hid (G0.out.step (by go_grown) hg)
    clear hg
    go_wp2_with fail
    exact ⟨rfl, rfl, G1.out⟩
  obtain ⟨_, rfl, rfl, hs, hg⟩ := he
  have S1 := Lib.hid hs
  have G1 := Lib.hid (G0.out.step (by go_grown) hg)
  clear hs hg
  have hl1 : s1.toks.length < s0.toks.length := plt_must _ _ _ _ _ Hq1.out
  have HH := Lib.hid h
  clear h
  go_wp2_with fail
  go_loopg [3] f (fun k v W => ∃ (acc : List St) (s : PS) (C : List Value), k ≤ f ∧ pStmts k acc s = some r ∧ acc.length + s.toks.length ≤ 2048 ∧ PSt W pb s ∧ Gr (· ≠ pb) w W ∧
    W.ownsRow w.heap.size 66 17 v acc.length C ∧ StsC (fun b => w.heap.size ≤ b ∧ some b ≠ v.ownBlock) W acc C)
  case atStart => exact ⟨[], s1, [], Nat.le_refl _, HH.out, by simp; omega, S1.out, G1.out, World.ownsRow_nil _ _ _ _, sts0 _ _⟩
  case round =>
    obtain ⟨acc, s, C, hkf, hk, hbd, hs, hg, hown, hst⟩ := hrel
    cases gk with
    | zero => simp [pStmts] at hk
    | succ g =>
      unfold pStmts at hk
      rw [bind_eat] at hk
      have hr' := hg.size
      obtain ⟨A3, c3, rfl⟩ := own_shape hown
      have hob := hown.lt
      have hle : acc.length ≤ 140737488355328 := by omega
      have S := Lib.hid hs
      have G := Lib.hid hg
      have Own := Lib.hid hown
      have St := Lib.hid hst
      have HK := Lib.hid hk
      have OB := Lib.hid hob
      clear hs
      clear hg
      clear hown
      clear hst
      clear hk
      clear hob
      go_wp2_with fail
      refine (eat_text pb s _ (S.out.below (by go_grown)) [125]).mono ?_
      rintro e w2 ⟨rfl, hs, hg⟩
      have hk := HK.out
      have hle2 := ple_eat [125]
      generalize hi : isOf [[125]] s = b at hk ⊢
      have hls : (eatS [125] s).toks.length ≤ s.toks.length := by
        unfold eatS
        split
        · exact Nat.le_of_lt (isOf_toks (by assumption))
        · exact Nat.le_refl _
      generalize eatS [125] s = s2 at hk hs hls
      have hg2 := hg
      have S2 := Lib.hid hs
      have G2 := Lib.hid (G.out.trans hg)
      have Own2 := Lib.hid (own_gr Own.out hg hlt)
      have St2 := Lib.hid (St.out.gr (hg.mono fun b _ h => by have := h.1; omega))
      clear hs hg hg2 hi hle2
      cases b with
      | true =>
        simp only [if_true] at hk
        injection hk with hk
        subst hk
        go_wp2_with fail
        go_returns
        exact ⟨_, rfl, ⟨A3, acc.length, c3, C, rfl, RdK.of_own Own2.out hle (fun b hb => (Own2.out.lt b hb).1), St2.out.mono fun b _ h => h.1⟩, S2.out, G2.out⟩
      | false =>
        simp only [if_neg (show ¬ (false = true) by simp)] at hk
        have h := hk
        clear hk
        obtain ⟨q3, hq, h⟩ := P.bind_some h
        have Hq3 := Lib.hid hq
        have H3 := Lib.hid h
        clear hq h
        have hr2 := G2.out.size
        go_wp2_with fail
        have Z2 := Lib.hid (Gr.refl (· ≠ pb) w2)
        refine (ihS g (by omega) pb s2 _ q3 (S2.out.below (by go_grown)) Hq3.out).mono ?_
        rintro e w3 he
        rcases H3.out with ⟨n, rfl, rfl⟩ | ⟨a3, s3, rfl, h⟩
        · obtain ⟨rfl, hg⟩ := he
          have G3 := Lib.hid (G2.out.step (by go_grown) hg)
          clear hg
          go_wp2_with fail
          exact ⟨rfl, rfl, G3.out⟩
        obtain ⟨_, rfl, ⟨A1, n1, c1, A2, n2, c2, A3', n3, c3', A4, n4, c4, A5, n5, c5, A6, n6, c6, rfl, he⟩, hs, hg⟩ := he
        have S3 := Lib.hid hs
        have G3 := Lib.hid (G2.out.step (by go_grown) hg)
        have Z3 := Lib.hid (Z2.out.step (by go_grown) hg)
        clear hs hg
        have hl3 : s3.toks.length < s2.toks.length := (lenS g).1 _ _ _ Hq3.out
        have Own3 := Lib.hid (own_gr Own2.out Z3.out hlt)
        have St3 := Lib.hid (St2.out.gr (Z3.out.mono fun b _ h => by have := h.1; omega))
        have E3 := Lib.hid (he.mono (ok' := fun b => w.heap.size ≤ b ∧ some b ≠ (Value.slice A3 acc.length c3).ownBlock) (fun b _ h => by
          have h : w2.heap.size ≤ b := h
          exact ⟨by omega, fun e => by have := (Own2.out.lt b e.symm).2; omega⟩))
        have HH3 := Lib.hid h
        have hz3 := Z3.out.size
        clear he h
        go_wp2_with (first | (at_builtin; refine append_lit2 _ _ _ rfl _ _ 23 rfl w.heap.size i0 _ 17 264 Tryz.underlying23 HI.out.1 HI.out.2.1 HI.out.2.2.1 HI.out.2.2.2 rfl (by decide) _ _ _ rfl Own3.out 1 _ rfl rfl rfl rfl (by omega) (by decide) (by omega) ?_; intro v' w4 hown4 hg4 hw4; have Own4 := Lib.hid hown4; have G4 := Lib.hid hg4; have W4 := Lib.hid hw4; clear hown4 hg4 hw4))
        go_roundg g
        case rel =>
          have St4 := ((St3.out.snoc E3.out).mono (ok' := fun b => (w.heap.size ≤ b ∧ some b ≠ v'.ownBlock) ∧ some b ≠ (Value.slice A3 acc.length c3).ownBlock) (fun b hb h => ⟨⟨h.1, fun e => by
            rcases W4.out b e.symm with h1 | h1
            · exact h.2 h1.symm
            · omega⟩, h.2⟩)).gr ((Gr.refl _ w3).grown G4.out (fun k hk _ h => h.2 hk.symm))
          refine ⟨acc ++ [a3], s3, _, by omega, HH3.out, by simp; omega, S3.out.gr ((Gr.refl _ w3).grown G4.out (fun k hk _ h => ?_)), G3.out.grown G4.out (fun k hk h => ?_), by simpa using Own4.out, St4.mono fun b _ h => h.1⟩
          · have h : k ≤ pb := h
            have := (Own3.out.lt k hk).1
            omega
          · have := (Own3.out.lt k hk).1
            omega
        case measure => omega
theorem all_stmts (f : Nat) : ∀ g, g ≤ f → CallsS g ∧ CallsB g := by
  have h0 : CallsS 0 ∧ CallsB 0 := by
    refine ⟨fun pb s w r hs h => ?_, fun pb s w r hs h => ?_⟩
    · simp [pStmt] at h
    · simp [pBlock] at h
  induction f with
  | zero =>
    intro g hg
    obtain rfl : g = 0 := by omega
    exact h0
  | succ f ih =>
    intro g hg
    rcases Nat.lt_or_ge g (f + 1) with hlt | hge
    · exact ih g (by omega)
    · obtain rfl : g = f + 1 := by omega
      exact ⟨stmt_step f (ih f (Nat.le_refl _)).2, block_step f fun k hk => (ih k hk).1⟩
theorem stmt_calls (f pb : Nat) (s : PS) (w : World) (r : Res St) (hs : PSt w pb s) (h : pStmt f s = some r) :
    Calls Tryz.prog 58 #[.pointer (some ⟨pb, 0, none⟩)] w (PEnd w pb r (rdS w.heap.size)) := (all_stmts f f (Nat.le_refl _)).1 pb s w r hs h
end
end Go.Proofs.YtokdcfehnhifhaaGreatDoor
