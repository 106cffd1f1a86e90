/- A declaration is parsed. The parser of all tokens. -/
import Derived.Test.YtokdcfehnhifhaaGreatDoorPar2
import Derived.Test.YtokdcfehnhifhaaGreatDoorPar3
import Derived.Deep.RegionHeld3
import Derived.Deep.RegionLaw
import Derived.Deep.AppendLies
namespace Go.Proofs.YtokdcfehnhifhaaGreatDoor
/-! A declaration is parsed. -/
section
set_option linter.unusedVariables false
set_option linter.unusedSimpArgs false
open Go.RowKit

theorem Has.c3 {x0 x1 x2 : Value} {w : World} {b : Nat} (h : Has w b #[x0, x1, x2]) : w.cell? ⟨b, 0, none⟩ = some x0 ∧ w.cell? ⟨b, 1, none⟩ = some x1 ∧ w.cell? ⟨b, 2, none⟩ = some x2 ∧
    w.frozen? ⟨b, 0, none⟩ = false ∧ w.frozen? ⟨b, 1, none⟩ = false ∧ w.frozen? ⟨b, 2, none⟩ = false ∧ b < w.heap.size :=
  ⟨h.cell 0 _ rfl, h.cell 1 _ rfl, h.cell 2 _ rfl, h.frz 0 (by simp), h.frz 1 (by simp), h.frz 2 (by simp), h.lt⟩
def rdD : De → Value → World → Prop := fun d v _ => v = .agg #[.string ⟨d.name.toArray⟩, .int .i64 d.ty, .int .i64 d.cells]
theorem take_txt {ks : List Int} {s s' : PS} {a : List UInt8} (h : pTake ks s = some (.ok a s')) (ht : ∀ t, t ∈ s.toks → t.text.length ≤ 8192) : a.length ≤ 8192 := by
  unfold pTake at h
  split at h
  · injection h with h; injection h with h _; subst h
    unfold hd
    cases hs : s.toks with
    | nil => simp
    | cons t r => exact ht t (by simp [hs])
  · injection h with h; cases h
theorem bind_odd {α : Type} (t : List UInt8) (f : Int → P α) (s : PS) : (pOdd t).bind f s = f (atoiP t).1 { s with odd := s.odd || (atoiP t).2 || decide ((atoiP t).1 < 1) || decide ((64 : Int) < (atoiP t).1) } := rfl
set_option maxHeartbeats 4000000 in
theorem decl_calls (pb : Nat) (s0 : PS) (w : World) (r : Res De) (hs : PSt w pb s0) (hn : s0.toks ≠ []) (h : pDecl s0 = some r) :
    Calls Tryz.prog 57 #[.pointer (some ⟨pb, 0, none⟩)] w (PEnd w pb r rdD) := by
  have hlt := hs.lt
  have G0 := Lib.hid (Gr.refl (· ≠ pb) (w.alloc (.cells #[.string ⟨#[]⟩, .int .i64 0, .int .i64 0] 58)))
  have R0 := Lib.hid (Has.new w #[.string ⟨#[]⟩, .int .i64 0, .int .i64 0] 58 rfl)
  have S0 := Lib.hid hs
  have HN := Lib.hid hn
  clear hs hn
  unfold pDecl at h
  rw [bind_pass] at h
  obtain ⟨q2, hq, h⟩ := P.bind_some h
  have Hq2 := Lib.hid hq
  have H2 := Lib.hid h
  clear hq h
  go_enter Tryz.func57, Tryz.ntmps57
  go_wp2_with fail
  refine (pass_calls pb s0 _ (S0.out.below (by go_grown)) HN.out).mono ?_
  rintro e w1 ⟨rfl, hs, hg⟩
  have G1 := Lib.hid (G0.out.step (by go_grown) hg)
  have R1 := Lib.hid ((R0.out.below (by go_grown)).gr hg (by omega))
  have S1 := Lib.hid hs
  clear hs hg
  try clear hz
  have hz : w.heap.size < w1.heap.size := by have := G1.out.size; simp at this; omega
  generalize drop1 s0 = s1 at *
  generalize (hd s0).text = ty at *
  obtain ⟨k, hk⟩ : ∃ k, k = typeOf ty := ⟨_, rfl⟩
  have H := H2.out
  rw [← hk] at H
  have Hk := Lib.hid hk
  have HX := Lib.hid H
  clear H hk H2
  have H2 := HX
  go_wp2_with fail
  refine (typeOf_calls ty _).mono ?_
  rintro e w1b ⟨rfl, hb⟩
  rw [← Hk.out]
  have S1b := Lib.hid (S1.out.below hb)
  have G1b := Lib.hid (G1.out.trans (Gr.of_below _ hb))
  have R1b := Lib.hid (R1.out.below hb)
  have hz1 := hb.size
  clear hb
  have D1b := Lib.hid (Has.new w1b #[.string ⟨#[]⟩, .int .i64 k, .int .i64 0] 58 rfl)
  have hdb : w.heap.size < w1b.heap.size := by omega
  go_wp2_with fail
  refine (take_calls pb s1 _ (S1b.out.below (by go_grown)) _ [1] (rd_k1 _ 1 _ (by simp)) (by decide) q2 Hq2.out).mono ?_
  rintro e w2 he
  rcases H2.out with ⟨n, rfl, rfl⟩ | ⟨a2, s2, rfl, h⟩
  · obtain ⟨rfl, hg⟩ := he
    have G2 := Lib.hid (G1b.out.step (by go_grown) hg)
    clear hg
    go_wp2_with fail
    exact ⟨rfl, rfl, G2.out.pre⟩
  obtain ⟨_, rfl, rfl, hs, hg⟩ := he
  have S2 := Lib.hid hs
  have G2 := Lib.hid (G1b.out.step (by go_grown) hg)
  have R2 := Lib.hid ((R1b.out.below (by go_grown)).gr hg (by omega))
  have D2 := Lib.hid ((D1b.out.below (by go_grown)).gr hg (by omega))
  clear hs hg
  try clear hz
  have hz : w.heap.size < w2.heap.size := by have := G2.out.size; simp at this; omega
  rw [bind_eat] at h
  have B3 := Lib.hid h
  clear h
  obtain ⟨Dc0, Dc1, Dc2, Df0, Df1, Df2, Dz⟩ := D2.out.c3
  go_wp2_with fail
  have G2b := Lib.hid ((G2.out).setCell (p := ⟨w1b.heap.size, 0, none⟩) (Or.inl (by simp; omega)) (.string ⟨a2.toArray⟩))
  have S2b := Lib.hid (S2.out.gr ((Gr.refl (· ≤ pb) w2).setCell (p := ⟨w1b.heap.size, 0, none⟩) (Or.inr (by simp; omega)) (.string ⟨a2.toArray⟩)))
  have K2b := Lib.hid ((Gr.refl (w1b.heap.size < ·) w2).setCell (p := ⟨w1b.heap.size, 0, none⟩) (Or.inr (by simp)) (.string ⟨a2.toArray⟩))
  have J2b := Lib.hid ((Gr.refl (· ≠ w1b.heap.size) w2).setCell (p := ⟨w1b.heap.size, 0, none⟩) (Or.inr (by simp)) (.string ⟨a2.toArray⟩))
  have D2b := Lib.hid ((D2.out).set 0 (.string ⟨a2.toArray⟩) (by simp))
  have R2b := Lib.hid ((R2.out).off ⟨w1b.heap.size, 0, none⟩ (.string ⟨a2.toArray⟩) (by simp; omega))
  clear Dc0 Dc1 Dc2 Df0 Df1 Df2
  refine (eat_text pb s2 _ (S2b.out.below (by go_grown)) [91]).mono ?_
  rintro e w3 ⟨rfl, hs, hg⟩
  have h := B3.out
  generalize hbq : isOf [[91]] s2 = b at h ⊢
  have Hb3 := Lib.hid hbq
  clear hbq
  generalize eatS [91] s2 = s3 at h hs
  have S3 := Lib.hid hs
  have G3 := Lib.hid (G2b.out.step (by go_grown) hg)
  have R3 := Lib.hid ((R2b.out.below (by go_grown)).gr hg (by omega))
  have D3 := Lib.hid ((D2b.out.below (by go_grown)).gr hg (by omega))
  clear hs hg
  try clear hz
  have hz : w.heap.size < w3.heap.size := by have := G3.out.size; simp at this; omega
  cases b with
  | true =>
    simp only [if_true] at h
    obtain ⟨q4, hq, h⟩ := P.bind_some h
    have Hq4 := Lib.hid hq
    have H4 := Lib.hid h
    clear hq h
    go_wp2_with fail
    refine (take_calls pb s3 _ (S3.out.below (by go_grown)) _ [3] (rd_k1 _ 3 _ (by simp)) (by decide) q4 Hq4.out).mono ?_
    rintro e w4 he
    rcases H4.out with ⟨n, rfl, rfl⟩ | ⟨a4, s4, rfl, h⟩
    · obtain ⟨rfl, hg⟩ := he
      have G4 := Lib.hid (G3.out.step (by go_grown) hg)
      clear hg
      go_wp2_with fail
      exact ⟨rfl, rfl, G4.out.pre⟩
    obtain ⟨_, rfl, rfl, hs, hg⟩ := he
    have S4 := Lib.hid hs
    have G4 := Lib.hid (G3.out.step (by go_grown) hg)
    have R4 := Lib.hid ((R3.out.below (by go_grown)).gr hg (by omega))
    have D4 := Lib.hid ((D3.out.below (by go_grown)).gr hg (by omega))
    clear hs hg
    try clear hz
    have hz : w.heap.size < w4.heap.size := by have := G4.out.size; simp at this; omega
    rw [bind_odd] at h
    have ha4 := take_txt Hq4.out S3.out.txt
    have HH := Lib.hid h
    clear h
    go_wp2_with fail
    refine (atoi_calls a4 pb _ ha4 S4.out.glob).mono ?_
    rintro e w4b ⟨⟨er, rfl, her⟩, hb⟩
    have h := HH.out
    generalize (atoiP a4).1 = n at h ⊢
    generalize (atoiP a4).2 = q at h her
    clear HH H4 Hq4
    have S4b := Lib.hid (S4.out.below hb)
    have G4b := Lib.hid (G4.out.trans (Gr.of_below _ hb))
    have D4b := Lib.hid (show Has w4b w1b.heap.size #[.string ⟨a2.toArray⟩, .int .i64 k, .int .i64 0] by have := D4.out.below hb; simpa using this)
    have R4b := Lib.hid (R4.out.below hb)
    have hlt4 := S4b.out.lt
    have hsz4 := R4b.out.lt
    clear hb
    have o0 := S4b.out.odd
    have o1 := S4b.out.frz 3 (by omega)
    obtain ⟨Dc0, Dc1, Dc2, Df0, Df1, Df2, Dz⟩ := D4b.out.c3
    cases ho : s4.odd with
    | true =>
      rw [ho] at o0
      rw [show (s4.odd || q || decide (n < 1) || decide ((64 : Int) < n)) = true by simp [ho]] at h
      obtain ⟨q5, hq, h⟩ := P.bind_some h
      have Hq5 := Lib.hid hq
      have H5 := Lib.hid h
      clear hq h
      clear ho her
      go_wp2_with fail
      have So := Lib.hid (S4b.out.setOdd true)
      have Go' := Lib.hid (G4b.out.setCell (p := ⟨pb, 3, none⟩) (Or.inr (by simp)) (.bool true))
      have Do := Lib.hid (D4b.out.off ⟨pb, 3, none⟩ (.bool true) (by simp; omega))
      have Ro := Lib.hid (R4b.out.off ⟨pb, 3, none⟩ (.bool true) (by simp; omega))
      have Sn := Lib.hid (So.out.gr ((Gr.refl (· ≤ pb) _).setCell (p := ⟨w1b.heap.size, 2, none⟩) (Or.inr (by simp; omega)) (.int .i64 n)))
      have Gn := Lib.hid (Go'.out.setCell (p := ⟨w1b.heap.size, 2, none⟩) (Or.inl (by simp; omega)) (.int .i64 n))
      have Dn := Lib.hid (Do.out.set 2 (.int .i64 n) (by simp))
      have Rn := Lib.hid (Ro.out.off ⟨w1b.heap.size, 2, none⟩ (.int .i64 n) (by simp; omega))
      refine (must_calls pb _ _ (Sn.out.below (by go_grown)) _ [[93]] (rdk_t1 _ [93] _ (by simp) (by omega)) q5 Hq5.out).mono ?_
      rintro e w5 he
      rcases H5.out with ⟨n, rfl, rfl⟩ | ⟨a5, s5, rfl, h⟩
      · obtain ⟨rfl, hg⟩ := he
        have G5 := Lib.hid (Gn.out.step (by go_grown) hg)
        clear hg
        go_wp2_with fail
        exact ⟨rfl, rfl, G5.out.pre⟩
      obtain ⟨_, rfl, rfl, hs, hg⟩ := he
      have S5 := Lib.hid hs
      have G5 := Lib.hid (Gn.out.step (by go_grown) hg)
      have R5 := Lib.hid ((Rn.out.below (by go_grown)).gr hg (by omega))
      have D5 := Lib.hid ((Dn.out.below (by go_grown)).gr hg (by omega))
      clear hs hg
      try clear hz
      have hz : w.heap.size < w5.heap.size := by have := G5.out.size; simp at this; omega
      obtain ⟨q6, hq, h⟩ := P.bind_some h
      have Hq6 := Lib.hid hq
      have H6 := Lib.hid h
      clear hq h
      go_wp2_with fail
      refine (must_calls pb s5 _ (S5.out.below (by go_grown)) _ [[59]] (rdk_t1 _ [59] _ (by simp) (by omega)) q6 Hq6.out).mono ?_
      rintro e w6 he
      rcases H6.out with ⟨n, rfl, rfl⟩ | ⟨a6, s6, rfl, h⟩
      · obtain ⟨rfl, hg⟩ := he
        have G6 := Lib.hid (G5.out.step (by go_grown) hg)
        clear hg
        go_wp2_with fail
        exact ⟨rfl, rfl, G6.out.pre⟩
      obtain ⟨_, rfl, rfl, hs, hg⟩ := he
      have S6 := Lib.hid hs
      have G6 := Lib.hid (G5.out.step (by go_grown) hg)
      have R6 := Lib.hid ((R5.out.below (by go_grown)).gr hg (by omega))
      have D6 := Lib.hid ((D5.out.below (by go_grown)).gr hg (by omega))
      clear hs hg
      try clear hz
      have hz : w.heap.size < w6.heap.size := by have := G6.out.size; simp at this; omega
      injection h with h
      subst h
      have D6 := Lib.hid (show Has w6 w1b.heap.size #[.string ⟨a2.toArray⟩, .int .i64 k, .int .i64 n] by have := D6.out; simpa using this)
      obtain ⟨Dc0, Dc1, Dc2, Df0, Df1, Df2, Dz⟩ := D6.out.c3
      obtain ⟨Rc0, Rc1, Rc2, Rf0, Rf1, Rf2, Rz⟩ := R6.out.c3
      go_wp2_with fail
      try simp only [Exit.inBlock, Exit.then]
      refine bodyPost_ret (by simp [results, Tryz.results57, go_sem, Rc0, Rc1, Rc2, Rf0, Rf1, Rf2]; try rfl) rfl ?_
      refine ⟨_, rfl, by rw [Hk.out]; rfl, S6.out.gr ((((Gr.refl (· ≤ pb) w6).setCell (Or.inr ?_) _).setCell (Or.inr ?_) _).setCell (Or.inr ?_) _), ((G6.out.pre.setCell (Or.inl ?_) _).setCell (Or.inl ?_) _).setCell (Or.inl ?_) _⟩
      all_goals (simp; try omega)
    | false =>
      rw [ho] at o0
      rcases her with ⟨rfl, rfl⟩ | ⟨rfl, T, N, rfl⟩
      · by_cases n1 : n < 1
        · have t1 : decide (n < 1) = true := by simp [n1]
          rw [show (s4.odd || false || decide (n < 1) || decide ((64 : Int) < n)) = true by simp [ho, n1]] at h
          obtain ⟨q5, hq, h⟩ := P.bind_some h
          have Hq5 := Lib.hid hq
          have H5 := Lib.hid h
          clear hq h
          clear ho
          go_wp2_with fail
          have So := Lib.hid (S4b.out.setOdd true)
          have Go' := Lib.hid (G4b.out.setCell (p := ⟨pb, 3, none⟩) (Or.inr (by simp)) (.bool true))
          have Do := Lib.hid (D4b.out.off ⟨pb, 3, none⟩ (.bool true) (by simp; omega))
          have Ro := Lib.hid (R4b.out.off ⟨pb, 3, none⟩ (.bool true) (by simp; omega))
          have Sn := Lib.hid (So.out.gr ((Gr.refl (· ≤ pb) _).setCell (p := ⟨w1b.heap.size, 2, none⟩) (Or.inr (by simp; omega)) (.int .i64 n)))
          have Gn := Lib.hid (Go'.out.setCell (p := ⟨w1b.heap.size, 2, none⟩) (Or.inl (by simp; omega)) (.int .i64 n))
          have Dn := Lib.hid (Do.out.set 2 (.int .i64 n) (by simp))
          have Rn := Lib.hid (Ro.out.off ⟨w1b.heap.size, 2, none⟩ (.int .i64 n) (by simp; omega))
          refine (must_calls pb _ _ (Sn.out.below (by go_grown)) _ [[93]] (rdk_t1 _ [93] _ (by simp) (by omega)) q5 Hq5.out).mono ?_
          rintro e w5 he
          rcases H5.out with ⟨n, rfl, rfl⟩ | ⟨a5, s5, rfl, h⟩
          · obtain ⟨rfl, hg⟩ := he
            have G5 := Lib.hid (Gn.out.step (by go_grown) hg)
            clear hg
            go_wp2_with fail
            exact ⟨rfl, rfl, G5.out.pre⟩
          obtain ⟨_, rfl, rfl, hs, hg⟩ := he
          have S5 := Lib.hid hs
          have G5 := Lib.hid (Gn.out.step (by go_grown) hg)
          have R5 := Lib.hid ((Rn.out.below (by go_grown)).gr hg (by omega))
          have D5 := Lib.hid ((Dn.out.below (by go_grown)).gr hg (by omega))
          clear hs hg
          try clear hz
          have hz : w.heap.size < w5.heap.size := by have := G5.out.size; simp at this; omega
          obtain ⟨q6, hq, h⟩ := P.bind_some h
          have Hq6 := Lib.hid hq
          have H6 := Lib.hid h
          clear hq h
          go_wp2_with fail
          refine (must_calls pb s5 _ (S5.out.below (by go_grown)) _ [[59]] (rdk_t1 _ [59] _ (by simp) (by omega)) q6 Hq6.out).mono ?_
          rintro e w6 he
          rcases H6.out with ⟨n, rfl, rfl⟩ | ⟨a6, s6, rfl, h⟩
          · obtain ⟨rfl, hg⟩ := he
            have G6 := Lib.hid (G5.out.step (by go_grown) hg)
            clear hg
            go_wp2_with fail
            exact ⟨rfl, rfl, G6.out.pre⟩
          obtain ⟨_, rfl, rfl, hs, hg⟩ := he
          have S6 := Lib.hid hs
          have G6 := Lib.hid (G5.out.step (by go_grown) hg)
          have R6 := Lib.hid ((R5.out.below (by go_grown)).gr hg (by omega))
          have D6 := Lib.hid ((D5.out.below (by go_grown)).gr hg (by omega))
          clear hs hg
          try clear hz
          have hz : w.heap.size < w6.heap.size := by have := G6.out.size; simp at this; omega
          injection h with h
          subst h
          have D6 := Lib.hid (show Has w6 w1b.heap.size #[.string ⟨a2.toArray⟩, .int .i64 k, .int .i64 n] by have := D6.out; simpa using this)
          obtain ⟨Dc0, Dc1, Dc2, Df0, Df1, Df2, Dz⟩ := D6.out.c3
          obtain ⟨Rc0, Rc1, Rc2, Rf0, Rf1, Rf2, Rz⟩ := R6.out.c3
          go_wp2_with fail
          try simp only [Exit.inBlock, Exit.then]
          refine bodyPost_ret (by simp [results, Tryz.results57, go_sem, Rc0, Rc1, Rc2, Rf0, Rf1, Rf2]; try rfl) rfl ?_
          refine ⟨_, rfl, by rw [Hk.out]; rfl, S6.out.gr ((((Gr.refl (· ≤ pb) w6).setCell (Or.inr ?_) _).setCell (Or.inr ?_) _).setCell (Or.inr ?_) _), ((G6.out.pre.setCell (Or.inl ?_) _).setCell (Or.inl ?_) _).setCell (Or.inl ?_) _⟩
          all_goals (simp; try omega)
        · have t1 : decide (n < 1) = false := by simp [n1]
          by_cases n2 : 64 < n
          · have t2 : decide ((64 : Int) < n) = true := by simp [n2]
            have t3 : decide (n > 64) = true := by simp [n2]
            rw [show (s4.odd || false || decide (n < 1) || decide ((64 : Int) < n)) = true by simp [ho, n2]] at h
            obtain ⟨q5, hq, h⟩ := P.bind_some h
            have Hq5 := Lib.hid hq
            have H5 := Lib.hid h
            clear hq h
            clear ho
            go_wp2_with fail
            have So := Lib.hid (S4b.out.setOdd true)
            have Go' := Lib.hid (G4b.out.setCell (p := ⟨pb, 3, none⟩) (Or.inr (by simp)) (.bool true))
            have Do := Lib.hid (D4b.out.off ⟨pb, 3, none⟩ (.bool true) (by simp; omega))
            have Ro := Lib.hid (R4b.out.off ⟨pb, 3, none⟩ (.bool true) (by simp; omega))
            have Sn := Lib.hid (So.out.gr ((Gr.refl (· ≤ pb) _).setCell (p := ⟨w1b.heap.size, 2, none⟩) (Or.inr (by simp; omega)) (.int .i64 n)))
            have Gn := Lib.hid (Go'.out.setCell (p := ⟨w1b.heap.size, 2, none⟩) (Or.inl (by simp; omega)) (.int .i64 n))
            have Dn := Lib.hid (Do.out.set 2 (.int .i64 n) (by simp))
            have Rn := Lib.hid (Ro.out.off ⟨w1b.heap.size, 2, none⟩ (.int .i64 n) (by simp; omega))
            refine (must_calls pb _ _ (Sn.out.below (by go_grown)) _ [[93]] (rdk_t1 _ [93] _ (by simp) (by omega)) q5 Hq5.out).mono ?_
            rintro e w5 he
            rcases H5.out with ⟨n, rfl, rfl⟩ | ⟨a5, s5, rfl, h⟩
            · obtain ⟨rfl, hg⟩ := he
              have G5 := Lib.hid (Gn.out.step (by go_grown) hg)
              clear hg
              go_wp2_with fail
              exact ⟨rfl, rfl, G5.out.pre⟩
            obtain ⟨_, rfl, rfl, hs, hg⟩ := he
            have S5 := Lib.hid hs
            have G5 := Lib.hid (Gn.out.step (by go_grown) hg)
            have R5 := Lib.hid ((Rn.out.below (by go_grown)).gr hg (by omega))
            have D5 := Lib.hid ((Dn.out.below (by go_grown)).gr hg (by omega))
            clear hs hg
            try clear hz
            have hz : w.heap.size < w5.heap.size := by have := G5.out.size; simp at this; omega
            obtain ⟨q6, hq, h⟩ := P.bind_some h
            have Hq6 := Lib.hid hq
            have H6 := Lib.hid h
            clear hq h
            go_wp2_with fail
            refine (must_calls pb s5 _ (S5.out.below (by go_grown)) _ [[59]] (rdk_t1 _ [59] _ (by simp) (by omega)) q6 Hq6.out).mono ?_
            rintro e w6 he
            rcases H6.out with ⟨n, rfl, rfl⟩ | ⟨a6, s6, rfl, h⟩
            · obtain ⟨rfl, hg⟩ := he
              have G6 := Lib.hid (G5.out.step (by go_grown) hg)
              clear hg
              go_wp2_with fail
              exact ⟨rfl, rfl, G6.out.pre⟩
            obtain ⟨_, rfl, rfl, hs, hg⟩ := he
            have S6 := Lib.hid hs
            have G6 := Lib.hid (G5.out.step (by go_grown) hg)
            have R6 := Lib.hid ((R5.out.below (by go_grown)).gr hg (by omega))
            have D6 := Lib.hid ((D5.out.below (by go_grown)).gr hg (by omega))
            clear hs hg
            try clear hz
            have hz : w.heap.size < w6.heap.size := by have := G6.out.size; simp at this; omega
            injection h with h
            subst h
            have D6 := Lib.hid (show Has w6 w1b.heap.size #[.string ⟨a2.toArray⟩, .int .i64 k, .int .i64 n] by have := D6.out; simpa using this)
            obtain ⟨Dc0, Dc1, Dc2, Df0, Df1, Df2, Dz⟩ := D6.out.c3
            obtain ⟨Rc0, Rc1, Rc2, Rf0, Rf1, Rf2, Rz⟩ := R6.out.c3
            go_wp2_with fail
            try simp only [Exit.inBlock, Exit.then]
            refine bodyPost_ret (by simp [results, Tryz.results57, go_sem, Rc0, Rc1, Rc2, Rf0, Rf1, Rf2]; try rfl) rfl ?_
            refine ⟨_, rfl, by rw [Hk.out]; rfl, S6.out.gr ((((Gr.refl (· ≤ pb) w6).setCell (Or.inr ?_) _).setCell (Or.inr ?_) _).setCell (Or.inr ?_) _), ((G6.out.pre.setCell (Or.inl ?_) _).setCell (Or.inl ?_) _).setCell (Or.inl ?_) _⟩
            all_goals (simp; try omega)
          · have t2 : decide ((64 : Int) < n) = false := by simp [n2]
            have t3 : decide (n > 64) = false := by simp; omega
            rw [show (s4.odd || false || decide (n < 1) || decide ((64 : Int) < n)) = false by simp [ho, n1, n2]] at h
            obtain ⟨q5, hq, h⟩ := P.bind_some h
            have Hq5 := Lib.hid hq
            have H5 := Lib.hid h
            clear hq h
            clear ho
            go_wp2_with fail
            have So := Lib.hid (S4b.out.setOdd false)
            have Go' := Lib.hid (G4b.out.setCell (p := ⟨pb, 3, none⟩) (Or.inr (by simp)) (.bool false))
            have Do := Lib.hid (D4b.out.off ⟨pb, 3, none⟩ (.bool false) (by simp; omega))
            have Ro := Lib.hid (R4b.out.off ⟨pb, 3, none⟩ (.bool false) (by simp; omega))
            have Sn := Lib.hid (So.out.gr ((Gr.refl (· ≤ pb) _).setCell (p := ⟨w1b.heap.size, 2, none⟩) (Or.inr (by simp; omega)) (.int .i64 n)))
            have Gn := Lib.hid (Go'.out.setCell (p := ⟨w1b.heap.size, 2, none⟩) (Or.inl (by simp; omega)) (.int .i64 n))
            have Dn := Lib.hid (Do.out.set 2 (.int .i64 n) (by simp))
            have Rn := Lib.hid (Ro.out.off ⟨w1b.heap.size, 2, none⟩ (.int .i64 n) (by simp; omega))
            refine (must_calls pb _ _ (Sn.out.below (by go_grown)) _ [[93]] (rdk_t1 _ [93] _ (by simp) (by omega)) q5 Hq5.out).mono ?_
            rintro e w5 he
            rcases H5.out with ⟨n, rfl, rfl⟩ | ⟨a5, s5, rfl, h⟩
            · obtain ⟨rfl, hg⟩ := he
              have G5 := Lib.hid (Gn.out.step (by go_grown) hg)
              clear hg
              go_wp2_with fail
              exact ⟨rfl, rfl, G5.out.pre⟩
            obtain ⟨_, rfl, rfl, hs, hg⟩ := he
            have S5 := Lib.hid hs
            have G5 := Lib.hid (Gn.out.step (by go_grown) hg)
            have R5 := Lib.hid ((Rn.out.below (by go_grown)).gr hg (by omega))
            have D5 := Lib.hid ((Dn.out.below (by go_grown)).gr hg (by omega))
            clear hs hg
            try clear hz
            have hz : w.heap.size < w5.heap.size := by have := G5.out.size; simp at this; omega
            obtain ⟨q6, hq, h⟩ := P.bind_some h
            have Hq6 := Lib.hid hq
            have H6 := Lib.hid h
            clear hq h
            go_wp2_with fail
            refine (must_calls pb s5 _ (S5.out.below (by go_grown)) _ [[59]] (rdk_t1 _ [59] _ (by simp) (by omega)) q6 Hq6.out).mono ?_
            rintro e w6 he
            rcases H6.out with ⟨n, rfl, rfl⟩ | ⟨a6, s6, rfl, h⟩
            · obtain ⟨rfl, hg⟩ := he
              have G6 := Lib.hid (G5.out.step (by go_grown) hg)
              clear hg
              go_wp2_with fail
              exact ⟨rfl, rfl, G6.out.pre⟩
            obtain ⟨_, rfl, rfl, hs, hg⟩ := he
            have S6 := Lib.hid hs
            have G6 := Lib.hid (G5.out.step (by go_grown) hg)
            have R6 := Lib.hid ((R5.out.below (by go_grown)).gr hg (by omega))
            have D6 := Lib.hid ((D5.out.below (by go_grown)).gr hg (by omega))
            clear hs hg
            try clear hz
            have hz : w.heap.size < w6.heap.size := by have := G6.out.size; simp at this; omega
            injection h with h
            subst h
            have D6 := Lib.hid (show Has w6 w1b.heap.size #[.string ⟨a2.toArray⟩, .int .i64 k, .int .i64 n] by have := D6.out; simpa using this)
            obtain ⟨Dc0, Dc1, Dc2, Df0, Df1, Df2, Dz⟩ := D6.out.c3
            obtain ⟨Rc0, Rc1, Rc2, Rf0, Rf1, Rf2, Rz⟩ := R6.out.c3
            go_wp2_with fail
            try simp only [Exit.inBlock, Exit.then]
            refine bodyPost_ret (by simp [results, Tryz.results57, go_sem, Rc0, Rc1, Rc2, Rf0, Rf1, Rf2]; try rfl) rfl ?_
            refine ⟨_, rfl, by rw [Hk.out]; rfl, S6.out.gr ((((Gr.refl (· ≤ pb) w6).setCell (Or.inr ?_) _).setCell (Or.inr ?_) _).setCell (Or.inr ?_) _), ((G6.out.pre.setCell (Or.inl ?_) _).setCell (Or.inl ?_) _).setCell (Or.inl ?_) _⟩
            all_goals (simp; try omega)
      · rw [show (s4.odd || true || decide (n < 1) || decide ((64 : Int) < n)) = true by simp [ho]] at h
        obtain ⟨q5, hq, h⟩ := P.bind_some h
        have Hq5 := Lib.hid hq
        have H5 := Lib.hid h
        clear hq h
        clear ho
        go_wp2_with fail
        have So := Lib.hid (S4b.out.setOdd true)
        have Go' := Lib.hid (G4b.out.setCell (p := ⟨pb, 3, none⟩) (Or.inr (by simp)) (.bool true))
        have Do := Lib.hid (D4b.out.off ⟨pb, 3, none⟩ (.bool true) (by simp; omega))
        have Ro := Lib.hid (R4b.out.off ⟨pb, 3, none⟩ (.bool true) (by simp; omega))
        have Sn := Lib.hid (So.out.gr ((Gr.refl (· ≤ pb) _).setCell (p := ⟨w1b.heap.size, 2, none⟩) (Or.inr (by simp; omega)) (.int .i64 n)))
        have Gn := Lib.hid (Go'.out.setCell (p := ⟨w1b.heap.size, 2, none⟩) (Or.inl (by simp; omega)) (.int .i64 n))
        have Dn := Lib.hid (Do.out.set 2 (.int .i64 n) (by simp))
        have Rn := Lib.hid (Ro.out.off ⟨w1b.heap.size, 2, none⟩ (.int .i64 n) (by simp; omega))
        refine (must_calls pb _ _ (Sn.out.below (by go_grown)) _ [[93]] (rdk_t1 _ [93] _ (by simp) (by omega)) q5 Hq5.out).mono ?_
        rintro e w5 he
        rcases H5.out with ⟨n, rfl, rfl⟩ | ⟨a5, s5, rfl, h⟩
        · obtain ⟨rfl, hg⟩ := he
          have G5 := Lib.hid (Gn.out.step (by go_grown) hg)
          clear hg
          go_wp2_with fail
          exact ⟨rfl, rfl, G5.out.pre⟩
        obtain ⟨_, rfl, rfl, hs, hg⟩ := he
        have S5 := Lib.hid hs
        have G5 := Lib.hid (Gn.out.step (by go_grown) hg)
        have R5 := Lib.hid ((Rn.out.below (by go_grown)).gr hg (by omega))
        have D5 := Lib.hid ((Dn.out.below (by go_grown)).gr hg (by omega))
        clear hs hg
        try clear hz
        have hz : w.heap.size < w5.heap.size := by have := G5.out.size; simp at this; omega
        obtain ⟨q6, hq, h⟩ := P.bind_some h
        have Hq6 := Lib.hid hq
        have H6 := Lib.hid h
        clear hq h
        go_wp2_with fail
        refine (must_calls pb s5 _ (S5.out.below (by go_grown)) _ [[59]] (rdk_t1 _ [59] _ (by simp) (by omega)) q6 Hq6.out).mono ?_
        rintro e w6 he
        rcases H6.out with ⟨n, rfl, rfl⟩ | ⟨a6, s6, rfl, h⟩
        · obtain ⟨rfl, hg⟩ := he
          have G6 := Lib.hid (G5.out.step (by go_grown) hg)
          clear hg
          go_wp2_with fail
          exact ⟨rfl, rfl, G6.out.pre⟩
        obtain ⟨_, rfl, rfl, hs, hg⟩ := he
        have S6 := Lib.hid hs
        have G6 := Lib.hid (G5.out.step (by go_grown) hg)
        have R6 := Lib.hid ((R5.out.below (by go_grown)).gr hg (by omega))
        have D6 := Lib.hid ((D5.out.below (by go_grown)).gr hg (by omega))
        clear hs hg
        try clear hz
        have hz : w.heap.size < w6.heap.size := by have := G6.out.size; simp at this; omega
        injection h with h
        subst h
        have D6 := Lib.hid (show Has w6 w1b.heap.size #[.string ⟨a2.toArray⟩, .int .i64 k, .int .i64 n] by have := D6.out; simpa using this)
        obtain ⟨Dc0, Dc1, Dc2, Df0, Df1, Df2, Dz⟩ := D6.out.c3
        obtain ⟨Rc0, Rc1, Rc2, Rf0, Rf1, Rf2, Rz⟩ := R6.out.c3
        go_wp2_with fail
        try simp only [Exit.inBlock, Exit.then]
        refine bodyPost_ret (by simp [results, Tryz.results57, go_sem, Rc0, Rc1, Rc2, Rf0, Rf1, Rf2]; try rfl) rfl ?_
        refine ⟨_, rfl, by rw [Hk.out]; rfl, S6.out.gr ((((Gr.refl (· ≤ pb) w6).setCell (Or.inr ?_) _).setCell (Or.inr ?_) _).setCell (Or.inr ?_) _), ((G6.out.pre.setCell (Or.inl ?_) _).setCell (Or.inl ?_) _).setCell (Or.inl ?_) _⟩
        all_goals (simp; try omega)
  | false =>
    simp only [if_neg (show ¬ (false = true) by simp)] at h
    obtain ⟨q6, hq, h⟩ := P.bind_some h
    have Hq6 := Lib.hid hq
    have H6 := Lib.hid h
    clear hq h
    have hsz4 := R3.out.lt
    go_wp2_with fail
    refine (must_calls pb s3 _ (S3.out.below (by go_grown)) _ [[59]] (rdk_t1 _ [59] _ (by simp) (by omega)) q6 Hq6.out).mono ?_
    rintro e w6 he
    rcases H6.out with ⟨n, rfl, rfl⟩ | ⟨a6, s6, rfl, h⟩
    · obtain ⟨rfl, hg⟩ := he
      have G6 := Lib.hid (G3.out.step (by go_grown) hg)
      clear hg
      go_wp2_with fail
      exact ⟨rfl, rfl, G6.out.pre⟩
    obtain ⟨_, rfl, rfl, hs, hg⟩ := he
    have S6 := Lib.hid hs
    have G6 := Lib.hid (G3.out.step (by go_grown) hg)
    have R6 := Lib.hid ((R3.out.below (by go_grown)).gr hg (by omega))
    have D6 := Lib.hid ((D3.out.below (by go_grown)).gr hg (by omega))
    clear hs hg
    try clear hz
    have hz : w.heap.size < w6.heap.size := by have := G6.out.size; simp at this; omega
    injection h with h
    subst h
    have D6 := Lib.hid (show Has w6 w1b.heap.size #[.string ⟨a2.toArray⟩, .int .i64 k, .int .i64 0] by have := D6.out; simpa using this)
    obtain ⟨Dc0, Dc1, Dc2, Df0, Df1, Df2, Dz⟩ := D6.out.c3
    obtain ⟨Rc0, Rc1, Rc2, Rf0, Rf1, Rf2, Rz⟩ := R6.out.c3
    go_wp2_with fail
    try simp only [Exit.inBlock, Exit.then]
    refine bodyPost_ret (by simp [results, Tryz.results57, go_sem, Rc0, Rc1, Rc2, Rf0, Rf1, Rf2]; try rfl) rfl ?_
    refine ⟨_, rfl, by rw [Hk.out]; rfl, S6.out.gr ((((Gr.refl (· ≤ pb) w6).setCell (Or.inr ?_) _).setCell (Or.inr ?_) _).setCell (Or.inr ?_) _), ((G6.out.pre.setCell (Or.inl ?_) _).setCell (Or.inl ?_) _).setCell (Or.inl ?_) _⟩
    all_goals (simp; try omega)
end

/-! The parser of all tokens. -/
section
set_option linter.unusedVariables false
set_option linter.unusedSimpArgs false
open Go.RowKit

/-- How 'whole' ends. -/
def WEnd (w : World) (pb : Nat) (r : Res Pg) (e : Ending) (w' : World) : Prop :=
  Gr (· ≠ pb) w w' ∧ match r with
    | .ok p s => ∃ v, e = .returned (.tuple #[v, .int .i64 0, .bool true]) ∧ PgC (w.heap.size ≤ ·) w' p v ∧ PSt w' pb s
    | .bad n => e = .returned (.tuple #[.agg #[.slice none 0 0, .slice none 0 0], .int .i64 n, .bool false])
/-- What 'whole' holds between its rounds. -/
structure WIn (w W : World) (pb : Nat) (s : PS) (vd vb : Value) : Prop where
  st : PSt W pb s
  gr : Gr (· ≠ pb) w W
  x : Has W w.heap.size #[vd, vb]
  left : Has W (w.heap.size + 1) #[.int .i64 0]
  ok : Has W (w.heap.size + 2) #[.bool false]
theorem whole_dies {w W : World} {pb : Nat} (n : Nat) {tm : Array Value} (h2 : tm[2]? = some (.pointer (some ⟨w.heap.size, 0, none⟩))) (h3 : tm[3]? = some (.pointer (some ⟨w.heap.size + 1, 0, none⟩))) (h4 : tm[4]? = some (.pointer (some ⟨w.heap.size + 1 + 1, 0, none⟩)))
    (hg : Gr (· ≠ pb) w W) {x0 x1 y z : Value} (hx : Has W w.heap.size #[x0, x1]) (hy : Has W (w.heap.size + 1) #[y]) (hz : Has W (w.heap.size + 2) #[z]) :
    bodyPostD Tryz.prog Tryz.f24 (WEnd w pb (.bad n)) (Exit.panic [⟨.iface 99 (.agg #[.int .i64 n]), false, false⟩])
      { tmps := tm, defers := [{ target := Target.fn (Fn.func 55) #[.pointer (some ⟨w.heap.size, 0, none⟩), .pointer (some ⟨w.heap.size + 1, 0, none⟩), .pointer (some ⟨w.heap.size + 1 + 1, 0, none⟩)], args := #[] }] } W := by
  refine leaves_cons (f := 55) (args := #[.pointer (some ⟨w.heap.size, 0, none⟩), .pointer (some ⟨w.heap.size + 1, 0, none⟩), .pointer (some ⟨w.heap.size + 1 + 1, 0, none⟩)]) (by simp) (by simp [go_sem]) ?_
  refine (catch_fault w.heap.size (w.heap.size + 1) (w.heap.size + 1 + 1) n W x0 x1 y z (hx.cell 0 _ rfl) (hx.cell 1 _ rfl) (hy.cell 0 _ rfl) (hz.cell 0 _ rfl) (hx.frz 0 (by simp)) (hx.frz 1 (by simp)) (hy.frz 0 (by simp)) (hz.frz 0 (by simp)) (by omega) (by omega) hz.lt).mono ?_
  rintro e u' w'' ⟨rfl, rfl, ca0, ca1, cb0, cc0, hgr⟩
  simp [Leaves, settle, results, Tryz.results24, go_sem, Act.eval, h2, h3, h4, ca0, ca1, cb0, cc0]
  exact ⟨hg.later hgr (fun b hb h => ⟨by omega, by omega, by omega⟩), rfl⟩
theorem whole_ends {w W : World} {pb : Nat} {tm : Array Value} (h2 : tm[2]? = some (.pointer (some ⟨w.heap.size, 0, none⟩))) (h3 : tm[3]? = some (.pointer (some ⟨w.heap.size + 1, 0, none⟩))) (h4 : tm[4]? = some (.pointer (some ⟨w.heap.size + 1 + 1, 0, none⟩)))
    {p : Pg} {s : PS} (hg : Gr (· ≠ pb) w W) (hs : PSt W pb s) {x0 x1 : Value} (hx : Has W w.heap.size #[x0, x1]) (hp : PgC (w.heap.size ≤ ·) W p (.agg #[x0, x1])) (hy : Has W (w.heap.size + 1) #[.int .i64 0]) (hz : Has W (w.heap.size + 2) #[.bool true]) :
    bodyPostD Tryz.prog Tryz.f24 (WEnd w pb (.ok p s)) Exit.ret
      { tmps := tm, defers := [{ target := Target.fn (Fn.func 55) #[.pointer (some ⟨w.heap.size, 0, none⟩), .pointer (some ⟨w.heap.size + 1, 0, none⟩), .pointer (some ⟨w.heap.size + 1 + 1, 0, none⟩)], args := #[] }] } W := by
  refine leaves_cons (f := 55) (args := #[.pointer (some ⟨w.heap.size, 0, none⟩), .pointer (some ⟨w.heap.size + 1, 0, none⟩), .pointer (some ⟨w.heap.size + 1 + 1, 0, none⟩)]) (by simp) (by simp [go_sem]) ?_
  refine (catch_idle w.heap.size (w.heap.size + 1) (w.heap.size + 1 + 1) W).mono ?_
  rintro e u' w'' ⟨rfl, rfl, rfl⟩
  have c0 := hx.cell 0 _ rfl
  have c1 := hx.cell 1 _ rfl
  have c2 := hy.cell 0 _ rfl
  have c3 := hz.cell 0 _ rfl
  simp [Leaves, settle, results, Tryz.results24, go_sem, Act.eval, h2, h3, h4, c0, c1, c2, c3]
  exact ⟨hg, _, rfl, hp, hs⟩
/-- The door hangs on the results' slots alone. -/
theorem leaves_same {P : Program} {fn : Func} {t t' : Array Value} {R : Ending → World → Prop} (h : results fn t = results fn t') : ∀ (ds : List Deferred) (u : FrameMode) (w : World), Leaves P fn t R ds u w → Leaves P fn t' R ds u w
  | [], .returning, w, hl => by simpa only [Leaves, h] using hl
  | [], .panicking c, w, hl => hl
  | [], .run, w, hl => hl
  | d :: ds, u, w, hl => by
    obtain ⟨hu, fv, cap, f, args, h1, h2, h3⟩ := hl
    refine ⟨hu, fv, cap, f, args, h1, h2, h3.mono fun e u' w' he => ?_⟩
    cases e with
    | returned v => exact leaves_same h ds _ _ he
    | panicked c => exact leaves_same h ds _ _ he
    | outgrown => exact he
theorem whole_put {R : Ending → World → Prop} (k : Nat) (hk : 5 ≤ k) (v : Value) (c : List PanicEntry) (a : Act) (w : World) (h : bodyPostD Tryz.prog Tryz.f24 R (.panic c) (a.put (some k) v) w) : bodyPostD Tryz.prog Tryz.f24 R (.panic c) a w := by
  refine leaves_same ?_ _ _ _ h
  have e : ∀ i, i < 5 → (a.put (some k) v).tmps.getD i undef = a.tmps.getD i undef := fun i hi => by
    simp only [Act.put]
    rw [Array.getD_eq_getD_getElem?, Array.getD_eq_getD_getElem?, Array.getElem?_setIfInBounds_ne (by omega)]
  unfold results
  rw [Tryz.results24]
  simp only [List.mapM_toArray, List.mapM_cons, List.mapM_nil, e 2 (by omega), e 3 (by omega), e 4 (by omega)]
theorem Has.c2 {x0 x1 : Value} {w : World} {b : Nat} (h : Has w b #[x0, x1]) : w.cell? ⟨b, 0, none⟩ = some x0 ∧ w.cell? ⟨b, 1, none⟩ = some x1 ∧ w.frozen? ⟨b, 0, none⟩ = false ∧ w.frozen? ⟨b, 1, none⟩ = false ∧ b < w.heap.size :=
  ⟨h.cell 0 _ rfl, h.cell 1 _ rfl, h.frz 0 (by simp), h.frz 1 (by simp), h.lt⟩
theorem Has.c1 {x0 : Value} {w : World} {b : Nat} (h : Has w b #[x0]) : w.cell? ⟨b, 0, none⟩ = some x0 ∧ w.frozen? ⟨b, 0, none⟩ = false ∧ b < w.heap.size :=
  ⟨h.cell 0 _ rfl, h.frz 0 (by simp), h.lt⟩
section
variable {w W W' : World} {pb : Nat} {s s2 : PS} {vd vb : Value}
theorem WIn.gr' {ok : Nat → Prop} (h : WIn w W pb s vd vb) (hlt : pb < w.heap.size) (hg : Gr ok W W') (hk : ∀ b, b < W.heap.size → b ≠ pb → b < w.heap.size + 3 → ok b) (hs : PSt W' pb s2) : WIn w W' pb s2 vd vb :=
  ⟨hs, h.gr.later hg (fun b hb hb' => hk b (Nat.lt_of_lt_of_le hb h.gr.size) hb' (by omega)), h.x.gr hg (hk _ h.x.lt (by omega) (by omega)), h.left.gr hg (hk _ h.left.lt (by omega) (by omega)), h.ok.gr hg (hk _ h.ok.lt (by omega) (by omega))⟩
theorem WIn.below (h : WIn w W pb s vd vb) (hlt : pb < w.heap.size) (hb : Below W.heap.size W W') : WIn w W' pb s vd vb :=
  h.gr' hlt (Gr.of_below (fun _ => True) hb) (fun _ _ _ _ => trivial) (h.st.below hb)
theorem WIn.call (h : WIn w W pb s vd vb) (hlt : pb < w.heap.size) (hg : Gr (· ≠ pb) W W') (hs : PSt W' pb s2) : WIn w W' pb s2 vd vb :=
  h.gr' hlt hg (fun _ _ h _ => h) hs
theorem WIn.grown (h : WIn w W pb s vd vb) (hlt : pb < w.heap.size) {row : Option Nat} (hg : W.grownBy W' row) (hr : ∀ k, row = some k → w.heap.size + 3 ≤ k) : WIn w W' pb s vd vb :=
  h.gr' (ok := fun b => b < w.heap.size + 3) hlt ((Gr.refl _ W).grown hg (fun k hk _ h => by have := hr k hk; omega)) (fun _ _ _ h => h) (h.st.gr ((Gr.refl _ W).grown hg (fun k hk _ h => by have := hr k hk; have h : k ≤ pb := h; omega)))
theorem WIn.put (h : WIn w W pb s vd vb) (hlt : pb < w.heap.size) (v : Value) : WIn w (W.setCell ⟨w.heap.size, 0, none⟩ v) pb s v vb :=
  ⟨h.st.gr ((Gr.refl _ W).setCell (Or.inr (by simp; omega)) v), h.gr.setCell (Or.inl (Nat.le_refl _)) v, h.x.set 0 v (by simp), h.left.off _ _ (by simp), h.ok.off _ _ (by simp)⟩
theorem WIn.putB (h : WIn w W pb s vd vb) (hlt : pb < w.heap.size) (v : Value) : WIn w (W.setCell ⟨w.heap.size, 1, none⟩ v) pb s vd v :=
  ⟨h.st.gr ((Gr.refl _ W).setCell (Or.inr (by simp; omega)) v), h.gr.setCell (Or.inl (Nat.le_refl _)) v, h.x.set 1 v (by simp), h.left.off _ _ (by simp), h.ok.off _ _ (by simp)⟩
/-- The results are stored anew, and 'true'. -/
theorem WIn.close (h : WIn w W pb s vd vb) (hlt : pb < w.heap.size) {p : Pg} (hp : PgC (w.heap.size + 3 ≤ ·) W p (.agg #[vd, vb])) {W' : World}
    (hW : W' = (((W.setCell ⟨w.heap.size, 0, none⟩ vd).setCell ⟨w.heap.size, 1, none⟩ vb).setCell ⟨w.heap.size + 1, 0, none⟩ (.int .i64 0)).setCell ⟨w.heap.size + 1 + 1, 0, none⟩ (.bool true)) :
    Gr (· ≠ pb) w W' ∧ PSt W' pb s ∧ Has W' w.heap.size #[vd, vb] ∧ PgC (w.heap.size ≤ ·) W' p (.agg #[vd, vb]) ∧ Has W' (w.heap.size + 1) #[.int .i64 0] ∧ Has W' (w.heap.size + 2) #[.bool true] := by
  subst hW
  have g : ∀ ok : Nat → Prop, (∀ b, ok b → b < w.heap.size ∨ w.heap.size + 3 ≤ b) → Gr ok W ((((W.setCell ⟨w.heap.size, 0, none⟩ vd).setCell ⟨w.heap.size, 1, none⟩ vb).setCell ⟨w.heap.size + 1, 0, none⟩ (.int .i64 0)).setCell ⟨w.heap.size + 1 + 1, 0, none⟩ (.bool true)) := fun ok hk =>
    ((((Gr.refl ok W).setCell (Or.inr (fun h => by have := hk _ h; dsimp only at this; omega)) _).setCell (Or.inr (fun h => by have := hk _ h; dsimp only at this; omega)) _).setCell (Or.inr (fun h => by have := hk _ h; dsimp only at this; omega)) _).setCell (Or.inr (fun h => by have := hk _ h; dsimp only at this; omega)) _
  refine ⟨(((h.gr.setCell (Or.inl (by dsimp only; omega)) _).setCell (Or.inl (by dsimp only; omega)) _).setCell (Or.inl (by dsimp only; omega)) _).setCell (Or.inl (by dsimp only; omega)) _, h.st.gr (g _ fun b hb => Or.inl (by omega)), (((h.x.set 0 vd (by simp)).set 1 vb (by simp)).off _ _ (by dsimp only; omega)).off _ _ (by dsimp only; omega),
    hp.go (g _ fun b hb => Or.inr hb) (fun b _ hb => by omega), ((((h.left.off _ _ (by dsimp only; omega)).off _ _ (by dsimp only; omega)).set 0 (.int .i64 0) (by simp)).off _ _ (by dsimp only; omega)), ?_⟩
  have e : w.heap.size + 2 = w.heap.size + 1 + 1 := rfl
  rw [e]
  exact (((h.ok.off ⟨w.heap.size, 0, none⟩ vd (by dsimp only; omega)).off ⟨w.heap.size, 1, none⟩ vb (by dsimp only; omega)).off ⟨w.heap.size + 1, 0, none⟩ (.int .i64 0) (by dsimp only; omega)).set 0 (.bool true) (by simp)
end
/-- 'xs = append(xs, x)' at a row of the call's own, x a literal of one element, as a step of a region that draws. -/
theorem step_append_lit (W : World) (news : Array Value) (e : TypeId) {P : Program} {ops : Array Oper} {o : Oper} {a : Act} {K : Act → World → Prop} {Q : Exit → Act → World → Prop} {E : Prop} (hgd : o.guard = none) (s x : Operand) (t : TypeId)
    (ho : o.op = .call { callee := .builtin .append, args := #[s, x], argTypes := #[t, t] })
    (base : Nat) (i : TypeInfo) (z : Value) (size bytes : Nat) (ht : P.underlying t = some (.slice e)) (hi : P.info? e = some i) (hz : i.zero = some z)
    (hsize : i.size = size) (hby : i.bytes = bytes) (hzs : z.cells.size = size) (hsz : 0 < size)
    (v : Value) (n : Nat) (xs : List Value) (hs : a.eval s = v) (hown : W.ownsRow base e size v n xs)
    (c B1 : Nat) (hx : a.eval x = .slice (some ⟨B1, 0, none⟩) 1 c) (hB1 : B1 = W.heap.size) (hl : news.size = size) (h1 : (news.toList.all fun u => u.oneCell') = true)
    (hn : n < 1048576) (hbytes : bytes ≤ 134217728) (hbase : base ≤ W.heap.size)
    (h : ∀ v' w', w'.ownsRow base e size v' (n + 1) (xs ++ news.toList) → W.grownBy w' v.ownBlock → (∀ k, v'.ownBlock = some k → v.ownBlock = some k ∨ W.heap.size ≤ k) → K (a.put o.dst v') w') : if Region.wanted o (yielded ops a.tmps) = true then Oper.wp P o a (W.alloc (.cells news e)) K Q else E := by
  have hw : Region.wanted o (yielded ops a.tmps) = true := by simp [Region.wanted, hgd]
  rw [if_pos hw]
  subst hB1 hsize hby
  have hmul : (n + 1) * i.bytes ≤ 1048576 * 134217728 := Nat.mul_le_mul (by omega) hbytes
  have hnews : ∀ j u, news.toList[j]? = some u → (W.alloc (.cells news e)).cell? ((⟨W.heap.size, 0, none⟩ : Addr).add j) = some u := by
    intro j u hj
    rw [add_mk, Nat.zero_add, World.cell?_alloc_new]
    simpa using hj
  have h1' : ∀ u ∈ news.toList, u.oneCell' = true := fun u hu => List.all_eq_true.1 h1 u hu
  have h63 : n + 1 ≤ maxLen := by unfold maxLen; omega
  have hl' : news.toList.length = 1 * i.size := by simpa using hl
  obtain ⟨v', w', hr, h2, h3, _⟩ := run_append_own (P := P) (W.alloc (.cells news e)) base t o.type e i z i.size i.bytes ht hi hz rfl rfl hzs hsz v n xs (hown.alloc _) ⟨W.heap.size, 0, none⟩ 1 c news.toList hl' hnews h1' h63 (by omega) (by simp; omega)
  have hw := append_where (P := P) base t o.type e i z ht hi hz hzs v n xs (hown.alloc _) ⟨W.heap.size, 0, none⟩ c news.toList hl' hnews h1' h63 (by omega) hr
  have hg' : W.grownBy w' v.ownBlock := ⟨h3.os, h3.tape, h3.output, by have := h3.size; simp at this; omega, fun k hk hne => by
    rw [h3.block k (by simp; omega) hne, Below.heap_alloc _ _ _ hk]⟩
  unfold Oper.wp execOp
  simp only [ho, resolve, invoke, builtin, Sem.run_bind, Sem.run_pure, Result.andThen_ok, List.map_toArray, List.map_cons, List.map_nil, hs, hx, hr]
  exact h v' w' h2 hg' (fun k hk => (hw k hk).imp id (fun h => by simp at h; omega))
/-- An element of a row of one's own is written. -/
theorem own_put {P : Program} {w : World} {base g n cap size : Nat} {e : TypeId} {xs : List Value} (h : w.ownsRow base e size (.slice (some ⟨g, 0, none⟩) n cap) n xs) (o : Nat) (vs : List Value) (hle : o + vs.length ≤ n * size) (h1 : ∀ v ∈ vs, v.oneCell' = true) :
    ∃ w', (storeCells ⟨g, o, none⟩ vs).run P w = .ok () w' ∧ w'.ownsRow base e size (.slice (some ⟨g, 0, none⟩) n cap) n (repl xs o vs) ∧ Gr (· ≠ g) w w' := by
  rcases h.2 with ⟨h0, _⟩ | ⟨g', cap', cur, hv, hb, hg, hnc, hcm, hcs, htk⟩
  · cases h0
  injection hv with hv1 _ hv2
  injection hv1 with hv1
  injection hv1 with hv1
  subst hv1 hv2
  have hsz : n * size ≤ cur.size := by rw [hcs]; exact Nat.mul_le_mul_right _ hnc
  have hlt : g < w.heap.size := (Array.getElem?_eq_some_iff.1 hg).1
  have hr := run_storeCells_at (P := P) g o e vs 0 cur w hg (by omega) h1
  refine ⟨_, hr, ⟨by simp [repl, h.1]; omega, Or.inr ⟨g, cap, (cur.toList.take (o + 0) ++ vs ++ cur.toList.drop (o + 0 + vs.length)).toArray, rfl, hb, by simp [World.setRow, Array.getElem?_modify, hg], hnc, hcm, ?_, ?_⟩⟩, rfl, rfl, rfl, by simp [World.setRow], fun k hk hne => ?_⟩
  · simp
    omega
  · have hxl : xs.length = n * size := h.1
    subst htk
    simp only [repl, Nat.add_zero]
    have e1 : (List.take (n * size) cur.toList).length = n * size := hxl
    have a1 : (cur.toList.take o ++ vs).length = o + vs.length := by simp; omega
    rw [List.take_append, List.take_of_length_le (by omega), a1, List.take_take, Nat.min_eq_left (by omega), List.drop_take]
  · have hne : ¬ g = k := fun e => hne e.symm
    simp [World.setRow, Array.getElem?_modify, hne]
theorem repl_end {a z b : List Value} {n : Nat} (h : a.length = n) (hl : b.length = z.length) : repl (a ++ z) n b = a ++ b := by
  subst h
  simp [repl, hl]
theorem own_keep {ok : Nat → Prop} {w w' : World} {base : Nat} {e : TypeId} {size n : Nat} {v : Value} {cells : List Value} (h : w.ownsRow base e size v n cells) (hg : Gr ok w w') (hk : ∀ k, v.ownBlock = some k → ok k) : w'.ownsRow base e size v n cells := by
  refine ⟨h.1, ?_⟩
  rcases h.2 with h0 | ⟨g, cap, cur, rfl, hb, hh, rest⟩
  · exact Or.inl h0
  · exact Or.inr ⟨g, cap, cur, rfl, hb, by rw [hg.block g (Array.getElem?_eq_some_iff.1 hh).1 (hk g rfl)]; exact hh, rest⟩
/-- A statement's cells, as a whole. -/
theorem rdS.cells {n : Nat} {x : St} {v : Value} {w : World} (h : rdS n x v w) : ∃ cs : Array Value, v = .agg cs ∧ cs.size = 17 ∧ (∀ u ∈ cs.toList, u.oneCell' = true) ∧ StC (n ≤ ·) w x cs.toList := by
  obtain ⟨A1, n1, c1, A2, n2, c2, A3, n3, c3, A4, n4, c4, A5, n5, c5, A6, n6, c6, rfl, h⟩ := h
  exact ⟨_, rfl, rfl, by simp [Value.oneCell'], h⟩
section
variable {w w1 Wa w4 Wf : World} {pb n g : Nat} {s : PS} {vd vb : Value} {acc2 : List St} {C cs : List Value} {x : St} {e : TypeId} {cap : Nat}
theorem body_gr (h1 : w.heap.size + 3 ≤ w1.heap.size) (Gh : Gr (fun b => w.heap.size + 3 ≤ b) w1 Wa) (Oh : Wa.ownsRow w1.heap.size e 17 vb n C) (hg4 : Wa.grownBy w4 vb.ownBlock) (hg : w1.heap.size ≤ g) (hf : Gr (fun b => b ≠ g ∧ b ≠ w.heap.size) w4 Wf) :
    Gr (fun b => w.heap.size + 3 ≤ b) w1 Wf := by
  have hs := Gh.size
  have h4 := hg4.size
  refine ⟨hf.os.trans (hg4.os.trans Gh.os), hf.tape.trans (hg4.tape.trans Gh.tape), hf.output.trans (hg4.output.trans Gh.output), Nat.le_trans hs (Nat.le_trans h4 hf.size), fun k hk hok => ?_⟩
  rw [hf.block k (by omega) ⟨by omega, by omega⟩, hg4.block k (by omega) (fun e => by have := (Oh.lt k e.symm).1; omega)]
  exact Gh.block k hk hok
theorem body_sts (h1 : w.heap.size + 3 ≤ w1.heap.size) (Oh : Wa.ownsRow w1.heap.size e 17 vb n C) (St : StsC (fun b => w.heap.size + 3 ≤ b ∧ some b ≠ vb.ownBlock) Wa acc2 C) (Xh : StC (fun b => w.heap.size + 3 ≤ b ∧ some b ≠ vb.ownBlock) Wa x cs)
    (hg4 : Wa.grownBy w4 vb.ownBlock) (hat : vb.ownBlock = some g ∨ Wa.heap.size ≤ g) (hf : Gr (fun b => b ≠ g ∧ b ≠ w.heap.size) w4 Wf) :
    StsC (fun b => w.heap.size + 3 ≤ b ∧ some b ≠ some g) Wf (acc2 ++ [x]) (C ++ cs) := by
  have hm : ∀ b, b < Wa.heap.size → (w.heap.size + 3 ≤ b ∧ some b ≠ vb.ownBlock) → ((w.heap.size + 3 ≤ b ∧ some b ≠ some g) ∧ some b ≠ vb.ownBlock) := fun b hb h => ⟨⟨h.1, fun e => by
    injection e with e
    subst e
    rcases hat with h2 | h2
    · exact h.2 h2.symm
    · omega⟩, h.2⟩
  have S := ((St.snoc Xh).mono hm).gr ((Gr.refl _ Wa).grown hg4 (fun k hk _ h => h.2 hk.symm))
  exact (S.mono fun b _ h => h.1).gr (hf.mono fun b _ h => ⟨fun e => h.2 (by rw [e]), by omega⟩)
end
theorem P.bind_assoc {α β γ : Type} (x : P α) (f : α → P β) (g : β → P γ) : (x.bind f).bind g = x.bind fun a => (f a).bind g := by
  funext s
  unfold P.bind
  cases x s with
  | none => rfl
  | some q => cases q <;> rfl
theorem deInfo : (Tryz.prog.info? 58).map (fun i => (i.zero, i.size, i.bytes)) = some (some (.agg #[.string ⟨#[]⟩, .int .i64 0, .int .i64 0]), 3, 32) := by kernel_rfl
set_option maxRecDepth 20000 in
set_option maxHeartbeats 4000000 in
theorem whole_calls (f pb : Nat) (s0 : PS) (w : World) (r : Res Pg) (hs : PSt w pb s0) (h : pWhole f s0 = some r) :
    Calls Tryz.prog 24 #[.pointer (some ⟨pb, 0, none⟩)] w (WEnd w pb r) := by
  have hmf : ∀ (fn : Fn) (first cap : Array Value) (w : World), (Instr.makeFunc fn first cap).run Tryz.prog w = .ok (.func fn first cap) w := fun _ _ _ _ => rfl
  have hlt := hs.lt
  have S0 := Lib.hid hs
  clear hs
  have H := Lib.hid h
  clear h
  go_enter_defers Tryz.func24, Tryz.ntmps24
  go_wp2_with fail
  go_loopg [] f (fun k W => ∃ (acc : List De) (s : PS) (vd : Value), k ≤ f ∧ ((pDecls k acc).bind fun ds => (pBody f f []).bind fun b => P.ret ⟨ds, b⟩) s = some r ∧ acc.length + s.toks.length ≤ 2048 ∧ WIn w W pb s vd (.slice none 0 0) ∧
    W.ownsRow (w.heap.size + 3) 58 3 vd acc.length (deCells acc))
  case atStart =>
    have hsz : s0.toks.length ≤ 2048 := S0.out.len
    refine ⟨[], s0, .slice none 0 0, Nat.le_refl _, H.out, by simp; omega, ⟨S0.out.below (by go_grown), Gr.of_below _ (by go_grown), ?_, ?_, Has.new _ _ _ (by simp)⟩, World.ownsRow_nil _ _ _ _⟩
    · exact ((Has.new w #[.slice none 0 0, .slice none 0 0] _ rfl).below (bel_alloc _ _)).below (bel_alloc _ _)
    · exact (Has.new _ #[.int .i64 0] _ (by simp)).below (bel_alloc _ _)
  case round =>
    obtain ⟨acc, s, vd, hkf, hk, hbd, hw, hown⟩ := hrel
    cases gk with
    | zero => simp [pDecls, P.bind] at hk
    | succ g =>
      obtain ⟨i0, hi, hz0, hz1, hz2⟩ := info_parts deInfo
      have HI := Lib.hid (And.intro hi (And.intro hz0 (And.intro hz1 hz2)))
      clear hi hz0 hz1 hz2
      have hr' := hw.gr.size
      have W0 := Lib.hid hw
      have Own := Lib.hid hown
      have HK := Lib.hid hk
      obtain ⟨A3, c3, rfl⟩ := own_shape hown
      clear hw hown hk
      go_wp2_with fail
      refine (is_calls pb s _ (W0.out.st.below (by go_grown)) _ typesL (rd_t3 wr sInt sFloat sDouble _ rfl)).mono ?_
      rintro e w1 ⟨rfl, hb⟩
      have hb' := below2 (bel_alloc _ _) hb
      have W1 := Lib.hid (W0.out.below hlt hb')
      have Own1 := Lib.hid (own_kept Own.out hb')
      clear hb hb'
      have h := HK.out
      generalize hi : isOf typesL s = b
      have Hi := Lib.hid hi
      have hr1 := W1.out.gr.size
      have hz3 : w.heap.size + 3 ≤ w1.heap.size := by have := W1.out.ok.lt; omega
      obtain ⟨hc0, hc1, hf0, hf1, hz⟩ := W1.out.x.c2
      cases b with
      | false =>
        have h : ((pBody f f []).bind fun b => P.ret (Pg.mk acc b)) s = some r := by
          simpa [pDecls, hi, P.bind] using h
        have HK2 := Lib.hid h
        clear h hi
        go_wp2_with fail
        obtain ⟨i1, hi, hz0, hz1, hz2⟩ := info_parts stInfo
        have HS := Lib.hid (And.intro hi (And.intro hz0 (And.intro hz1 hz2)))
        clear hi hz0 hz1 hz2
        have hlen : acc.length ≤ 2048 := by omega
        have D1 := Lib.hid (RdK.of_own Own1.out (by omega) (fun k hk => (Own1.out.lt k hk).1))
        go_loopg [] f (fun k W => ∃ (acc2 : List St) (s : PS) (vb : Value) (C : List Value), k ≤ f ∧ ((pBody f k acc2).bind fun b => P.ret (Pg.mk acc b)) s = some r ∧ acc2.length + s.toks.length ≤ 2048 ∧ WIn w W pb s (.slice A3 acc.length c3) vb ∧
          W.ownsRow w1.heap.size 66 17 vb acc2.length C ∧ StsC (fun b => w.heap.size + 3 ≤ b ∧ some b ≠ vb.ownBlock) W acc2 C ∧ Gr (fun b => w.heap.size + 3 ≤ b) w1 W)
        case atStart => exact ⟨[], s, .slice none 0 0, [], Nat.le_refl _, HK2.out, by simp; omega, W1.out, World.ownsRow_nil _ _ _ _, sts0 _ _, Gr.refl _ _⟩
        case round =>
          clear HK HK2 Hi W0 Own
          obtain ⟨acc2, s2, vb, C, hkf2, hk, hbd2, hw, hown, hst, hgr⟩ := hrel
          cases gk with
          | zero => simp [pBody, P.bind] at hk
          | succ g2 =>
            have W2 := Lib.hid hw
            have Own2 := Lib.hid hown
            have St2 := Lib.hid hst
            have Gr2 := Lib.hid hgr
            have HK := Lib.hid hk
            have hb1 := hgr.size
            obtain ⟨v0, t0, trd⟩ := hw.st.toks
            obtain ⟨At, ct, rfl⟩ := trd.slice
            have tl := hw.st.lt
            obtain ⟨A4, c4, rfl⟩ := own_shape hown
            clear hw hown hst hgr hk trd hc0 hc1 hf0 hf1 hz
            obtain ⟨yc0, yc1, yf0, yf1, yz⟩ := W2.out.x.c2
            obtain ⟨lc0, lf0, lz⟩ := W2.out.left.c1
            obtain ⟨oc0, of0, oz⟩ := W2.out.ok.c1
            by_cases hn : s2.toks = []
            · have hk := HK.out
              simp only [pBody, P.bind, hn, if_true, P.ret] at hk
              injection hk with hk
              subst hk
              have h0 : s2.toks.length = 0 := by rw [hn]; rfl
              rw [h0] at t0
              go_wp2_with fail
              obtain ⟨k1, k2, k3, k4, k5, k6⟩ := W2.out.close hlt (p := ⟨acc, acc2⟩) ⟨_, _, C, rfl, D1.out.gr Gr2.out, RdK.of_own Own2.out (Nat.le_trans (show acc2.length ≤ 2048 by omega) (by decide)) (fun k hk => by have := (Own2.out.lt k hk).1; omega), St2.out.mono fun b _ h => h.1⟩ rfl
              exact whole_ends rfl rfl rfl k1 k2 k3 k4 k5 k6
            · have hpos : (0 : Int) < s2.toks.length := by have := List.length_pos_iff.2 hn; omega
              have tpos : decide ((s2.toks.length : Int) > 0) = true := by simpa using List.length_pos_iff.2 hn
              have h : ((pStmt f).bind fun x => (pBody f g2 (acc2 ++ [x])).bind fun b => P.ret (Pg.mk acc b)) s2 = some r := by
                rw [← P.bind_assoc]
                simpa [pBody, hn, P.bind] using HK.out
              obtain ⟨q3, hq, h⟩ := P.bind_some h
              have Hq3 := Lib.hid hq
              have H3 := Lib.hid h
              clear hq h
              rcases H3.out with ⟨n, rfl, rfl⟩ | ⟨x, s3, rfl, h⟩
              · go_wp2_with fail
                refine wp_region_any (by kernel_rfl) ?_
                change wpAny _ _ _ _ _ _ _ (World.drew _)
                refine wpAny_take (i := 0) (v := .pointer (some ⟨w.heap.size, 1, none⟩)) rfl (by decide +kernel) (by decide +kernel) (by decide +kernel) (fun c a w h => whole_put 25 (by decide) _ c a w h) (Or.inl ⟨by rfl, fun w => by go_simp⟩) ?_
                refine wpAny_take (i := 2) (v := .pointer (some ⟨pb, 0, none⟩)) rfl (by decide +kernel) (by decide +kernel) (by decide +kernel) (fun c a w h => whole_put 27 (by decide) _ c a w h) (Or.inl ⟨by rfl, fun w => by go_simp⟩) ?_
                repeat' (first | exact AllReady.nil | refine AllReady.cons rfl (fun K hK => ?_) ?_ | (refine wpAny_take (i := 4) (v := .int .i64 acc2.length) rfl (by decide +kernel) (by decide +kernel) (by decide +kernel) (fun c a w h => whole_put 29 (by decide) _ c a w h) (Or.inl ⟨by rfl, fun w => by go_simp⟩) ?_) | refine wpAny_ready (rs := [1, 3, 5]) (by decide +kernel) (by simp) ?_ | refine wpAny_ready (rs := [3, 5]) (by decide +kernel) (by simp) ?_ | refine wpAny_ready (rs := [3]) (by decide +kernel) (by simp) ?_ | refine wpAny_ready (rs := [1, 3]) (by decide +kernel) (by simp) ?_ | (go_simp; first | (refine hK _ _ ?_; clear hK K) | (refine (stmt_calls f pb s2 _ _ (W2.out.st.below (by first | exact Below.drew (Below.refl _ _) | go_grown)) Hq3.out).mono ?_; rintro e' w5 ⟨rfl, hg5⟩; exact whole_dies n rfl rfl rfl ((W2.out.gr.trans (Gr.of_below _ (by first | exact Below.drew (Below.refl _ _) | go_grown))).trans hg5) ((W2.out.x.below (by first | exact Below.drew (Below.refl _ _) | go_grown)).gr hg5 (by omega)) ((W2.out.left.below (by first | exact Below.drew (Below.refl _ _) | go_grown)).gr hg5 (by omega)) ((W2.out.ok.below (by first | exact Below.drew (Below.refl _ _) | go_grown)).gr hg5 (by omega)))))
              · go_wp2_with fail
                refine wp_region_noPanic ?_
                go_region_law (first | (refine step_append_lies _ rfl _ _ _ rfl w1.heap.size 66 i1 _ 17 264 Tryz.underlying23 HS.out.1 HS.out.2.1 HS.out.2.2.1 HS.out.2.2.2 rfl (by decide) (.slice A4 acc2.length c4) acc2.length C rfl (own_kept Own3.out (by first | exact Below.refl _ _ | go_grown)) _ 1 _ zS.toList rfl rfl (by first | exact (fun j u hj => (congrArg _ (by rw [add_mk, Nat.zero_add])).trans ((World.cell?_alloc_new _ _ _ _).trans (by simpa [zS] using hj))) | exact (fun j u hj => (congrArg _ (by rw [add_mk, Nat.zero_add])).trans ((Gz.out.cell (p := ⟨wr.heap.size, j, none⟩) (by simp) (by dsimp only; omega)).trans ((World.cell?_alloc_new _ _ _ _).trans (by simpa [zS] using hj))))) (by decide) (by decide) (by unfold maxLen; omega) (by omega) (by have := Gr3.out.size; first | omega | (simp only [World.size_alloc]; omega)) _ rfl ?_; intro g cap w4 hown4 hg4 hat hlt4; have hl : acc2.length * 17 + cs.toList.length ≤ (acc2.length + 1) * 17 := (by have e := Array.length_toList (xs := cs); omega); have hown4' := own_keep hown4 ((Gr.refl (fun k => w.heap.size + 3 ≤ k) w4).setCell (p := ⟨w.heap.size, 1, none⟩) (Or.inr (by simp)) (.slice (some ⟨g, 0, none⟩) (acc2.length + 1) cap)) (fun k hk => by have := (hown4.lt k hk).1; omega); obtain ⟨w5, hst5, hown5, hg5⟩ := own_put (P := Tryz.prog) hown4 (acc2.length * 17) cs.toList hl hone; obtain ⟨w6, hst6, hown6, hg6⟩ := own_put (P := Tryz.prog) hown4' (acc2.length * 17) cs.toList hl hone; have hgl := (hown4.lt g rfl).1; have W4 := Lib.hid ((W3.out.below hlt (by first | exact Below.refl _ _ | go_grown)).grown hlt hg4 (fun k hk => by have := (Own3.out.lt k hk).1; omega)); have W5 := Lib.hid (W4.out.gr' hlt hg5 (fun b hb h1 h2 => by omega) (W4.out.st.gr (hg5.mono fun b _ h => by have h : b ≤ pb := h; omega))); have F5 := Lib.hid (W5.out.putB hlt (.slice (some ⟨g, 0, none⟩) (acc2.length + 1) cap)); have W4b := Lib.hid (W4.out.putB hlt (.slice (some ⟨g, 0, none⟩) (acc2.length + 1) cap)); have F6 := Lib.hid (W4b.out.gr' hlt hg6 (fun b hb h1 h2 => by omega) (W4b.out.st.gr (hg6.mono fun b _ h => by have h : b ≤ pb := h; omega))); have er : repl (C ++ zS.toList) (acc2.length * 17) cs.toList = C ++ cs.toList := (repl_end (by rw [Own3.out.1]) (by have e := Array.length_toList (xs := cs); rw [e, hcs]; rfl)); rw [er] at hown5 hown6; have O5 := Lib.hid (own_keep hown5 ((Gr.refl (fun k => w.heap.size + 3 ≤ k) w5).setCell (p := ⟨w.heap.size, 1, none⟩) (Or.inr (by simp)) (.slice (some ⟨g, 0, none⟩) (acc2.length + 1) cap)) (fun k hk => by have := (hown5.lt k hk).1; omega)); have O6 := Lib.hid hown6; have R5 : Gr (fun b => b ≠ g ∧ b ≠ w.heap.size) w4 (w5.setCell ⟨w.heap.size, 1, none⟩ (.slice (some ⟨g, 0, none⟩) (acc2.length + 1) cap)) := ((hg5.mono fun b _ h => h.1).setCell (Or.inr (by simp)) _); have R6 : Gr (fun b => b ≠ g ∧ b ≠ w.heap.size) w4 w6 := (((Gr.refl (fun b => b ≠ g ∧ b ≠ w.heap.size) w4).setCell (p := ⟨w.heap.size, 1, none⟩) (Or.inr (by simp)) (.slice (some ⟨g, 0, none⟩) (acc2.length + 1) cap)).trans (hg6.mono fun b _ h => h.1)); have hat2 := hat.imp id (fun h => Nat.le_of_eq h.symm); have T5 := Lib.hid (body_sts hz3 (own_kept Own3.out (by first | exact Below.refl _ _ | go_grown)) (St3.out.gr (Gr.of_below _ (by first | exact Below.refl _ _ | go_grown))) (X3.out.gr (Gr.of_below _ (by first | exact Below.refl _ _ | go_grown))) hg4 hat2 R5); have T6 := Lib.hid (body_sts hz3 (own_kept Own3.out (by first | exact Below.refl _ _ | go_grown)) (St3.out.gr (Gr.of_below _ (by first | exact Below.refl _ _ | go_grown))) (X3.out.gr (Gr.of_below _ (by first | exact Below.refl _ _ | go_grown))) hg4 hat2 R6); have B5 := Lib.hid (body_gr hz3 (Gr3.out.trans (Gr.of_below _ (by first | exact Below.refl _ _ | go_grown))) (own_kept Own3.out (by first | exact Below.refl _ _ | go_grown)) hg4 hgl R5); have B6 := Lib.hid (body_gr hz3 (Gr3.out.trans (Gr.of_below _ (by first | exact Below.refl _ _ | go_grown))) (own_kept Own3.out (by first | exact Below.refl _ _ | go_grown)) hg4 hgl R6); obtain ⟨c40, c41, f40, f41, z4⟩ := W4.out.x.c2; obtain ⟨c50, c51, f50, f51, z5⟩ := W5.out.x.c2; have hgn : ¬ g = w.heap.size := (by omega); have hidx : (acc2.length : Int) < acc2.length + 1 := (by omega); clear R5 R6 hat2 hown5 hown6 hown4 hown4' hg4 hg5 hg6 hat er hl) | (go_simp; go_at_call 58; refine (stmt_calls f pb s2 _ _ (W2.out.st.below (by first | exact Below.drew (Below.refl _ _) | go_grown)) Hq3.out).mono ?_; rintro e' w3 ⟨v3, rfl, hv3, hs3, hg3⟩; obtain ⟨cs, rfl, hcs, hone, hx3⟩ := hv3.cells; have W3 := Lib.hid ((W2.out.below hlt (by first | exact Below.drew (Below.refl _ _) | go_grown)).call hlt hg3 hs3); have Own3 := Lib.hid (own_keep (own_kept Own2.out (by first | exact Below.drew (Below.refl _ _) | go_grown)) hg3 (fun k hk => by have := (Own2.out.lt k hk).1; omega)); have St3 := Lib.hid ((St2.out.gr (Gr.of_below _ (by first | exact Below.drew (Below.refl _ _) | go_grown))).gr (hg3.mono fun b _ h => by have := h.1; omega)); have Gr3 := Lib.hid ((Gr2.out.trans (Gr.of_below _ (by first | exact Below.drew (Below.refl _ _) | go_grown))).trans (hg3.mono fun b _ h => by have h : w.heap.size + 3 ≤ b := h; omega)); have X3 := Lib.hid (hx3.mono (ok' := fun b => w.heap.size + 3 ≤ b ∧ some b ≠ (Value.slice A4 acc2.length c4).ownBlock) (fun b _ h => by simp at h; exact ⟨by omega, fun e => by have := (Own2.out.lt b e.symm).2; omega⟩)); have Gz := Lib.hid hg3; obtain ⟨yc30, yc31, yf30, yf31, yz3⟩ := W3.out.x.c2; clear hx3 hs3 hg3 hv3) | fail)
                all_goals
                  refine NoPanic.normal ?_
                  have HR := Lib.hid h
                  clear h
                  go_wp2_with fail
                  go_roundg g2
                  case rel =>
                    have hl3 := (lenS f).1 _ _ _ Hq3.out
                    refine ⟨acc2 ++ [x], s3, .slice (some ⟨g, 0, none⟩) (acc2.length + 1) cap, C ++ cs.toList, by omega, HR.out, by simp; omega, ?_⟩
                    rw [List.length_append]
                    first | exact ⟨F5.out, O5.out, T5.out, B5.out⟩ | exact ⟨F6.out, O6.out, T6.out, B6.out⟩
                  case measure => omega
      | true =>
        have h : (pDecl.bind fun d => (pDecls g (acc ++ [d])).bind fun ds => (pBody f f []).bind fun b => P.ret (Pg.mk ds b)) s = some r := by
          rw [← P.bind_assoc]
          simpa [pDecls, hi, P.bind] using h
        clear hi
        obtain ⟨q2, hq, h⟩ := P.bind_some h
        have Hq2 := Lib.hid hq
        have H2 := Lib.hid h
        clear hq h
        rcases H2.out with ⟨n, rfl, rfl⟩ | ⟨d, s2, rfl, h⟩
        · go_wp2_with fail
          refine wp_region_any (by kernel_rfl) ?_
          change wpAny _ _ _ _ _ _ _ (World.drew _)
          have W5 := Lib.hid (W1.out.below hlt (Below.drew (Below.refl _ _)))
          repeat' (first | exact AllReady.nil | refine AllReady.cons rfl (fun K hK => ?_) ?_ | refine wpAny_ready (rs := [0, 2]) (by decide +kernel) (by simp) ?_ | refine wpAny_ready (rs := [0, 3]) (by decide +kernel) (by simp) ?_ | refine wpAny_ready (rs := [1, 2]) (by decide +kernel) (by simp) ?_ | refine wpAny_ready (rs := [1, 3]) (by decide +kernel) (by simp) ?_ | refine wpAny_ready (rs := [2]) (by decide +kernel) (by simp) ?_ | refine wpAny_ready (rs := [3]) (by decide +kernel) (by simp) ?_ | (go_simp; first | (refine hK _ _ ?_; clear hK K) | (refine (decl_calls pb s _ _ (W5.out.st) (isOf_ne Hi.out) Hq2.out).mono ?_; rintro e' w5 ⟨rfl, hg5⟩; exact whole_dies n rfl rfl rfl (W5.out.gr.trans hg5) (W5.out.x.gr hg5 (by omega)) (W5.out.left.gr hg5 (by omega)) (W5.out.ok.gr hg5 (by omega)))))
        · go_wp2_with fail
          refine wp_region_noPanic ?_
          go_region_law (first | (refine step_append_lit _ _ _ rfl _ _ 22 rfl (w.heap.size + 3) i0 _ 3 32 Tryz.underlying22 HI.out.1 HI.out.2.1 HI.out.2.2.1 HI.out.2.2.2 rfl (by decide) _ _ _ rfl Own2.out 1 _ rfl rfl rfl rfl (by omega) (by decide) (by have := W2.out.ok.lt; omega) ?_; intro v' w4 hown4 hg4 hw4; obtain ⟨A4, c4, rfl⟩ := own_shape hown4; have Own4 := Lib.hid hown4; have W4 := Lib.hid (W2.out.grown hlt hg4 (fun k hk => (Own2.out.lt k hk).1)); obtain ⟨xc0, xc1, xf0, xf1, xz⟩ := W4.out.x.c2; clear hown4 hg4 hw4) | (go_simp; go_at_call 57; refine (decl_calls pb s _ _ (W1.out.st.below (Below.drew (Below.refl _ _))) (isOf_ne Hi.out) Hq2.out).mono ?_; rintro e' w2 ⟨v2, rfl, hv2, hs2, hg2⟩; obtain rfl : v2 = _ := hv2; have Own2 := Lib.hid (own_gr (own_kept Own1.out (Below.drew (Below.refl _ _))) hg2 (by omega)); have W2 := Lib.hid ((W1.out.below hlt (Below.drew (Below.refl _ _))).call hlt hg2 hs2); obtain ⟨yc0, yc1, yf0, yf1, yz⟩ := W2.out.x.c2; clear hs2 hg2))
          all_goals
            refine NoPanic.normal ?_
            have HR := Lib.hid h
            clear h
            go_wp2_with fail
            go_roundg g
            case rel =>
              refine ⟨acc ++ [d], s2, _, by omega, HR.out, by have := plt_decl _ _ _ Hq2.out; simp; omega, W4.out.put hlt _, ?_⟩
              have e1 : deCells (acc ++ [d]) = deCells acc ++ [strV d.name, .int .i64 d.ty, .int .i64 d.cells] := by simp [deCells, De.vals]
              rw [e1, List.length_append]
              exact own_keep Own4.out ((Gr.refl (fun k => w.heap.size + 3 ≤ k) _).setCell (Or.inr (by simp)) _) (fun k hk => (Own4.out.lt k hk).1)
            case measure => omega
end
end Go.Proofs.YtokdcfehnhifhaaGreatDoor
