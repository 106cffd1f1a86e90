/- FparseCuts: what the statement's function answers. -/
import Derived.Test.YtokdcfehnhifhaaGreatDoorCut
import Derived.Test.YtokdcfehnhifhaaGreatDoorLawJ
set_option linter.unusedVariables false
set_option linter.unusedSimpArgs false
namespace Go.Proofs.YtokdcfehnhifhaaGreatDoor
open Go.RowKit

theorem cut_law (l : List UInt8) (h : (pParse l).2.1 = 0) (hne : (scan l).1 ≠ []) : ((scan l).1.getLast hne).at_ ≤ l.length ∧
    (pParse (l.take ((scan l).1.getLast hne).at_)).2.1 = 4 ∧ (pParse (l.take ((scan l).1.getLast hne).at_)).2.2 = ((scan l).1.getLast hne).at_ := by
  obtain ⟨ts, st, h1, h2, _, _⟩ := parse_ok h
  have e1 : (scan l).1 = ts := by rw [h1]
  have hsp : ts = ts.dropLast ++ [(scan l).1.getLast hne] := by
    have := List.dropLast_concat_getLast hne
    simp only [e1] at this ⊢
    exact this.symm
  generalize (scan l).1.getLast hne = t at *
  generalize hu : ts.dropLast = u at *
  subst hsp
  obtain ⟨k1, k2⟩ := scan_cut l u t h1
  obtain ⟨r, hr⟩ := ends_whole u
  have hb := whole_cut h2 hr
  subst hb
  have e : pParse (l.take t.at_) = (noPg, 4, ((l.take t.at_).length : Int)) := by
    unfold pParse
    rw [k2]
    simp only [ne_eq, not_true_eq_false, if_false]
    unfold pTold
    rw [hr]
    rfl
  rw [e]
  refine ⟨k1, rfl, ?_⟩
  rw [List.length_take, Nat.min_eq_left k1]
theorem last_get {ts : List Tok} (h : ts ≠ []) : ts.getD (ts.length - 1) ⟨0, [], 0⟩ = ts.getLast h := by
  have := List.length_pos_iff.2 h
  rw [List.getD_eq_getElem?_getD, List.getElem?_eq_getElem (by omega), Option.getD_some, List.getLast_eq_getElem]
set_option maxRecDepth 100000 in
set_option maxHeartbeats 8000000 in
theorem FparseCuts_walk (a0 : ByteArray) (w : World) (h0 : a0.size ≤ 140737488351232) (hg : Glob w w.heap.size) :
    Calls Tryz.prog 8 #[.string a0] w fun e w' => e = .returned (.bool true) ∧ Below w.heap.size w w' := by
  have Gl := Lib.hid hg
  have hc1 := fun (W : World) (hW : Glob W W.heap.size) => parse_calls a0 W (by unfold maxLen; omega) hW
  have hc2 := fun (W : World) => scan_calls a0 W (by unfold maxLen; omega)
  have hlaw := cut_law a0.data.toList
  have hok := @parse_ok a0.data.toList
  have hcn := scan_count a0.data.toList
  generalize scan a0.data.toList = sc at *
  generalize pParse a0.data.toList = r1 at *
  obtain ⟨p, ep, kp⟩ := r1
  obtain ⟨ts, es, ks⟩ := sc
  simp only at hlaw hok hcn
  have C1 := Lib.hid hc1
  have C2 := Lib.hid hc2
  have Law := Lib.hid hlaw
  have Ok := Lib.hid hok
  clear hg hc1 hc2 hlaw hok
  go_enter Tryz.func8, Tryz.ntmps8
  go_wp2_with fail
  refine (C1.out _ Gl.out).mono ?_
  rintro e w1 ⟨v1, rfl, hp1, hb1⟩
  obtain ⟨A1, n1, A2, n2, rfl⟩ := hp1.vals
  have P1 := Lib.hid (hp1.go (Gr.refl _ _) (fun _ _ _ => trivial : ∀ b, b < w1.heap.size → _ → True))
  have B1 := Lib.hid hb1
  clear hp1 hb1
  have Q1 := Lib.hid (Has.new w1 #[.slice A1 p.decls.length n1, .slice A2 p.body.length n2] 25 rfl)
  go_wp2_with fail
  refine (C2.out _).mono ?_
  rintro e w2 ⟨v2, rfl, hr2, hb2⟩
  obtain ⟨A3, n3, rfl⟩ := hr2.slice
  have R2 := Lib.hid hr2
  have P2 := Lib.hid ((P1.out.go (Gr.of_below _ (bel_alloc _ _)) (fun _ _ h => h)).go (Gr.of_below _ hb2) (fun _ _ h => h))
  have B2 := Lib.hid (below2 (below2 B1.out (bel_alloc w1 (.cells #[.slice A1 p.decls.length n1, .slice A2 p.body.length n2] 25))) hb2)
  obtain ⟨x0, x1, xf0, xf1, xz⟩ := (Q1.out.below hb2).c2
  clear hb2 hr2
  by_cases hep : ep = 0
  · have t1 : (ep != 0) = false := by simpa using hep
    obtain ⟨ts', st, o1, o2, o3, o4⟩ := Ok.out hep
    injection o1 with o1 o5
    injection o5 with o5 o6
    subst o1 o5 o6
    subst hep
    clear o2 o4
    by_cases hts : ts = []
    · subst hts
      simp only [List.length_nil] at *
      clear Law Ok C2 R2
      go_wp2_with fail
      refine (live_calls _ (glob_up Gl.out B2.out)).mono ?_
      rintro e w4 ⟨rfl, hb⟩
      go_wp2_with fail
      go_ret
      exact ⟨rfl, below2 B2.out hb⟩
    · have hlp := List.length_pos_iff.2 hts
      have t2 : ((ts.length : Int) == 0) = false := by simp; omega
      have L3 := Lib.hid (Law.out rfl hts)
      have Lg := Lib.hid (last_get hts)
      clear Law
      generalize ts.getLast hts = t at *
      clear hts
      have hat : t.at_ ≤ a0.size := by have := L3.out.1; rw [← Lib.size_eq] at this; exact this
      obtain ⟨b, off, c', hsl, hle, hbl, hcell⟩ := R2.out.pos hlp
      injection hsl with hA hn' hc'
      subst hA hc'
      clear hn'
      have hg0 := hcell _ _ (tok_get (ts := ts) (k := ts.length - 1) (by omega))
      rw [Lg.out, ← Nat.add_assoc] at hg0
      have HG := Lib.hid hg0
      clear hcell hg0
      go_wp2_with fail
      refine (none_pg p _ _ P2.out).mono ?_
      rintro e w3 ⟨rfl, hb3⟩
      have B3 := Lib.hid (below2 B2.out hb3)
      have g0 : w3.cell? ⟨b, off + (ts.length - 1) * 3 + 2, none⟩ = some (.int .i64 (t.at_ : Int)) := by rw [(bcell hb3).1 b _ hbl]; exact HG.out
      have hbl3 : b < w3.heap.size := by have := hb3.size; omega
      clear hb3 x0 x1 xf0 xf1 xz
      cases hnp : noneP p with
      | true =>
        have Hnp := Lib.hid hnp
        clear hnp
        go_wp2_with fail
        refine (live_calls _ (glob_up Gl.out B3.out)).mono ?_
        rintro e w4 ⟨rfl, hb⟩
        go_wp2_with fail
        go_ret
        exact ⟨rfl, below2 B3.out hb⟩
      | false =>
        have Hnp := Lib.hid hnp
        clear hnp
        have hi0 : (0 : Int) ≤ (ts.length : Int) - 1 := by omega
        have hi1 : (ts.length : Int) - 1 < (ts.length : Int) := by omega
        have hi2 : ((ts.length : Int) - 1).toNat = ts.length - 1 := by omega
        have ha0 : (0 : Int) ≤ (t.at_ : Int) := by omega
        have ha1 : (t.at_ : Int) ≤ (a0.size : Int) := by omega
        have hsz : (a0.extract 0 t.at_).size ≤ maxLen := by
          rw [Lib.size_eq, Lib.extract_data, List.length_take, List.length_drop, ← Lib.size_eq]
          unfold maxLen
          omega
        have hc4 := parse_calls (a0.extract 0 t.at_) w3 hsz (glob_up Gl.out B3.out)
        have e9 : (a0.extract 0 t.at_).data.toList = a0.data.toList.take t.at_ := by rw [Lib.extract_data]; simp
        rw [e9] at hc4
        have l3 := L3.out.2
        generalize pParse (a0.data.toList.take t.at_) = r4 at *
        obtain ⟨p4, ep4, kp4⟩ := r4
        obtain ⟨rfl, rfl⟩ := l3
        have C4 := Lib.hid hc4
        clear hc4 e9 hsz L3
        go_wp2_with fail
        refine C4.out.mono ?_
        rintro e w4 ⟨v4, rfl, hp4, hb4⟩
        obtain ⟨A5, n5, A6, n6, rfl⟩ := hp4.vals
        have B4 := Lib.hid (below2 (below2 B3.out hb4) (bel_alloc w4 (.cells #[.slice A5 p4.decls.length n5, .slice A6 p4.body.length n6] 25)))
        have hbl4 : b < w4.heap.size := by have := hb4.size; omega
        have g4 := ((bcell hb4).1 b (off + (ts.length - 1) * 3 + 2) hbl3).trans g0
        clear hb4 hp4 g0
        go_wp2_with fail
        refine (live_calls _ (glob_up Gl.out B4.out)).mono ?_
        rintro e w5 ⟨rfl, hb5⟩
        have g5 : w5.cell? ⟨b, off + (ts.length - 1) * 3 + 2, none⟩ = some (.int .i64 (t.at_ : Int)) := by
          rw [(bcell hb5).1 b _ (by simp; omega), (bel_alloc w4 _).cell (p := ⟨b, off + (ts.length - 1) * 3 + 2, none⟩) hbl4]
          exact g4
        have B5 := Lib.hid (below2 B4.out hb5)
        clear hb5 g4
        go_wp2_with fail
        go_ret
        exact ⟨rfl, B5.out⟩
  · have t1 : (ep != 0) = true := by simpa using hep
    go_wp2_with fail
    refine (live_calls _ (glob_up Gl.out B2.out)).mono ?_
    rintro e w4 ⟨rfl, hb⟩
    go_wp2_with fail
    go_ret
    exact ⟨rfl, below2 B2.out hb⟩
end Go.Proofs.YtokdcfehnhifhaaGreatDoor
