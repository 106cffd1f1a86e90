/- Joins: the plain law; the statement's function. FparseJoins: what the statement's function answers. -/
import Derived.Test.YtokdcfehnhifhaaGreatDoorJoin
import Derived.Test.YtokdcfehnhifhaaGreatDoorEnd
import Derived.Deep.RegionHeld3
namespace Go.Proofs.YtokdcfehnhifhaaGreatDoor
/-! Joins: the plain law; the statement's function. -/
section
set_option linter.unusedVariables false
set_option linter.unusedSimpArgs false
open Go.RowKit

theorem parse_ok {l : List UInt8} (h : (pParse l).2.1 = 0) : ∃ ts st, scan l = (ts, 0, 0) ∧ pWhole (fuelOf ts) (ps0 ts) = some (.ok (pParse l).1 st) ∧ rightB (pParse l).1 = true ∧ (pParse l).2.2 = 0 := by
  by_cases h0 : (scan l).2.1 = 0
  · have e : pParse l = pTold l.length (scan l).1 := if_neg (by simpa using h0)
    have e0 := (scan_ends l).1 h0
    rw [e] at h ⊢
    generalize hs : scan l = sc at *
    obtain ⟨ts, x, y⟩ := sc
    simp only at h0 e0 h ⊢
    subst h0 e0
    obtain ⟨r, hr⟩ := ends_whole ts
    unfold pTold at h ⊢
    rw [hr] at h ⊢
    cases r with
    | bad n =>
      simp only at h
      split at h <;> simp at h
    | ok p st =>
      simp only at h ⊢
      split at h
      · simp at h
      · rename_i hc
        rw [if_neg hc]
        refine ⟨ts, st, rfl, hr, ?_, rfl⟩
        simp only [Bool.or_eq_true, Bool.not_eq_true', not_or] at hc
        simpa using hc.2
  · have e : pParse l = (noPg, (scan l).2.1, ((scan l).2.2 : Int)) := if_pos (by simpa using h0)
    rw [e] at h
    exact absurd h h0
theorem join_law (a b : List UInt8) (ha : (pParse a).2.1 = 0) (hb : (pParse b).2.1 = 0) (hc : (pParse b).1.decls = [] ∨ (pParse a).1.body = []) :
    (pParse (a ++ 32 :: b)).2.1 = 5 ∨ ((pParse (a ++ 32 :: b)).2.1 = 0 ∧ pPoints (pParse (a ++ 32 :: b)).1 = pPoints (pParse a).1 + pPoints (pParse b).1 ∧
      (pParse (a ++ 32 :: b)).1.decls.length = (pParse a).1.decls.length + (pParse b).1.decls.length) := by
  obtain ⟨ta, sa, h1, h2, h3, _⟩ := parse_ok ha
  obtain ⟨tb, sb, k1, k2, k3, _⟩ := parse_ok hb
  generalize (pParse a).1 = p at *
  generalize (pParse b).1 = q at *
  rcases scan_join a b ta tb h1 k1 with ⟨d, hs⟩ | ⟨x, hs⟩
  · have e : pParse (a ++ 32 :: b) = pTold (a ++ 32 :: b).length (ta ++ tb.map (shiftT d)) := by
      unfold pParse
      rw [hs]
      rfl
    obtain ⟨r, hr⟩ := ends_whole (ta ++ tb.map (shiftT d))
    obtain ⟨st, hst⟩ := whole_join h2 k2 (by rw [List.map_map]; rfl) hc _ r hr
    subst hst
    rw [e]
    unfold pTold
    rw [hr]
    simp only
    split
    · exact Or.inl rfl
    · rename_i hc2
      have hrr : rightB ⟨p.decls ++ q.decls, p.body ++ q.body⟩ = true := by
        simp only [Bool.or_eq_true, Bool.not_eq_true', not_or] at hc2
        simpa using hc2.2
      refine Or.inr ⟨rfl, ?_, by simp⟩
      unfold pPoints
      rw [if_pos hrr, if_pos h3, if_pos k3, stsPts_append]
      omega
  · have e : pParse (a ++ 32 :: b) = (noPg, 5, (x : Int)) := by
      unfold pParse
      rw [hs]
      rfl
    rw [e]
    exact Or.inl rfl
end

/-! FparseJoins: what the statement's function answers. -/
section
set_option linter.unusedVariables false
set_option linter.unusedSimpArgs false
open Go.RowKit

theorem PgC.vals {ok : Nat → Prop} {w : World} {p : Pg} {v : Value} (h : PgC ok w p v) : ∃ A1 c1 A2 c2, v = .agg #[.slice A1 p.decls.length c1, .slice A2 p.body.length c2] := by
  obtain ⟨dv, bv, bc, rfl, h1, h2, h3⟩ := h
  obtain ⟨A1, c1, rfl⟩ := h1.slice
  obtain ⟨A2, c2, rfl⟩ := h2.slice
  exact ⟨A1, c1, A2, c2, rfl⟩
theorem pPoints_le (p : Pg) : 0 ≤ pPoints p ∧ pPoints p ≤ 256 := by
  unfold pPoints
  split
  · rename_i h
    have := (right_ok h).pts
    omega
  · omega
theorem noPg_tx : noPg.tx := ⟨(fun d hd => by cases hd), sts_tx0⟩
theorem parse_tx (l : List UInt8) : (pParse l).1.tx := by
  unfold pParse
  split
  · exact noPg_tx
  · unfold pTold
    split
    · split <;> exact noPg_tx
    · rename_i x st h
      split
      · exact noPg_tx
      · have := (pt_whole _ _ _ _ (fun t ht => Nat.le_trans (scan_txt l t ht) (by unfold maxLen; omega)) h).1
        exact ⟨this.1, this.2⟩
    · exact noPg_tx
theorem PgC.dle {ok : Nat → Prop} {w : World} {p : Pg} {v : Value} (h : PgC ok w p v) : p.decls.length ≤ 140737488355328 := by
  obtain ⟨dv, bv, bc, rfl, h1, h2, h3⟩ := h
  exact h1.le
theorem keep6 {w : World} {b1 b2 b3 : Nat} {x0 x1 y0 y1 z0 z1 : Value} (h1 : Has w b1 #[x0, x1]) (h2 : Has w b2 #[y0, y1]) (h3 : Has w b3 #[z0, z1]) :
    w.cell? ⟨b1, 0, none⟩ = some x0 ∧ w.cell? ⟨b1, 1, none⟩ = some x1 ∧ w.cell? ⟨b2, 0, none⟩ = some y0 ∧ w.cell? ⟨b2, 1, none⟩ = some y1 ∧ w.cell? ⟨b3, 0, none⟩ = some z0 ∧ w.cell? ⟨b3, 1, none⟩ = some z1 :=
  ⟨h1.cell 0 _ rfl, h1.cell 1 _ rfl, h2.cell 0 _ rfl, h2.cell 1 _ rfl, h3.cell 0 _ rfl, h3.cell 1 _ rfl⟩
theorem join_text (a b : ByteArray) : (a ++ ⟨#[32]⟩ ++ b).data.toList = a.data.toList ++ 32 :: b.data.toList := by
  simp only [ByteArray.data_append, Array.toList_append, List.append_assoc]
  rfl
theorem join_size (a b : ByteArray) : (a ++ ⟨#[32]⟩ ++ b).size = a.size + 1 + b.size := by
  rw [ByteArray.size_append, ByteArray.size_append]
  rfl
set_option maxRecDepth 100000 in
set_option maxHeartbeats 8000000 in
theorem FparseJoins_walk (a0 a1 : ByteArray) (w : World) (h0 : a0.size ≤ 140737488351232) (h1 : a1.size ≤ 140737488351232) (hg : Glob w w.heap.size) :
    Calls Tryz.prog 7 #[.string a0, .string a1] w fun e w' => e = .returned (.bool true) ∧ Below w.heap.size w w' := by
  have Gl := Lib.hid hg
  have hc1 := fun (W : World) (hW : Glob W W.heap.size) => parse_calls a0 W (by unfold maxLen; omega) hW
  have hc2 := fun (W : World) (hW : Glob W W.heap.size) => parse_calls a1 W (by unfold maxLen; omega) hW
  have hc3 := fun (W : World) (hW : Glob W W.heap.size) => parse_calls (a0 ++ ⟨#[32]⟩ ++ a1) W (by rw [join_size]; unfold maxLen; omega) hW
  rw [join_text] at hc3
  have hlaw := join_law a0.data.toList a1.data.toList
  have htx1 := parse_tx a0.data.toList
  have htx2 := parse_tx a1.data.toList
  have htx3 := parse_tx (a0.data.toList ++ 32 :: a1.data.toList)
  generalize pParse a0.data.toList = r1 at *
  generalize pParse a1.data.toList = r2 at *
  generalize pParse (a0.data.toList ++ 32 :: a1.data.toList) = r3 at *
  obtain ⟨p, ep, kp⟩ := r1
  obtain ⟨q, eq, kq⟩ := r2
  obtain ⟨x, ex, kx⟩ := r3
  simp only at hlaw htx1 htx2 htx3
  have C1 := Lib.hid hc1
  have C2 := Lib.hid hc2
  have C3 := Lib.hid hc3
  have Law := Lib.hid hlaw
  have Tp := Lib.hid htx1
  have Tq := Lib.hid htx2
  have Tx := Lib.hid htx3
  clear hg hc1 hc2 hc3 hlaw htx1 htx2 htx3
  go_enter Tryz.func7, Tryz.ntmps7
  go_wp2_with fail
  refine (C1.out _ Gl.out).mono ?_
  rintro e w1 ⟨v1, rfl, hp1, hb1⟩
  obtain ⟨A1, n1, A2, n2, rfl⟩ := hp1.vals
  have P1 := Lib.hid (hp1.go (Gr.refl _ _) (fun _ _ _ => trivial : ∀ b, b < w1.heap.size → _ → True))
  have B1 := Lib.hid hb1
  clear hp1 hb1
  have Q1 := Lib.hid (Has.new w1 #[.slice A1 p.decls.length n1, .slice A2 p.body.length n2] 25 rfl)
  go_wp2_with fail
  refine (C2.out _ (glob_up Gl.out (below2 B1.out (bel_alloc _ _)))).mono ?_
  rintro e w2 ⟨v2, rfl, hp2, hb2⟩
  obtain ⟨A3, n3, A4, n4, rfl⟩ := hp2.vals
  have P2 := Lib.hid (hp2.go (Gr.refl _ _) (fun _ _ _ => trivial : ∀ b, b < w2.heap.size → _ → True))
  have B2 := Lib.hid (below2 (bel_alloc w1 (.cells #[.slice A1 p.decls.length n1, .slice A2 p.body.length n2] 25)) hb2)
  have Q1b := Lib.hid (Q1.out.below hb2)
  clear hp2 hb2
  have Q2 := Lib.hid (Has.new w2 #[.slice A3 q.decls.length n3, .slice A4 q.body.length n4] 25 rfl)
  go_wp2_with fail
  refine (C3.out _ (glob_up Gl.out (below2 (below2 B1.out B2.out) (bel_alloc _ _)))).mono ?_
  rintro e w3 ⟨v3, rfl, hp3, hb3⟩
  obtain ⟨A5, n5, A6, n6, rfl⟩ := hp3.vals
  have P3 := Lib.hid (hp3.go (Gr.refl _ _) (fun _ _ _ => trivial : ∀ b, b < w3.heap.size → _ → True))
  have B3 := Lib.hid (below2 (bel_alloc w2 (.cells #[.slice A3 q.decls.length n3, .slice A4 q.body.length n4] 25)) hb3)
  have Q1c := Lib.hid ((Q1b.out.below (bel_alloc _ _)).below hb3)
  have Q2b := Lib.hid (Q2.out.below hb3)
  clear hp3 hb3 Q1 Q1b Q2
  have Q3 := Lib.hid (Has.new w3 #[.slice A5 x.decls.length n5, .slice A6 x.body.length n6] 25 rfl)
  obtain ⟨x0, x1, xf0, xf1, xz⟩ := (Q1c.out.below (bel_alloc w3 (.cells #[.slice A5 x.decls.length n5, .slice A6 x.body.length n6] 25))).c2
  obtain ⟨y0, y1, yf0, yf1, yz⟩ := (Q2b.out.below (bel_alloc w3 (.cells #[.slice A5 x.decls.length n5, .slice A6 x.body.length n6] 25))).c2
  have BW := Lib.hid (below2 (below2 (below2 B1.out B2.out) B3.out) (bel_alloc w3 (.cells #[.slice A5 x.decls.length n5, .slice A6 x.body.length n6] 25)))
  have bx := bel_alloc w3 (.cells #[.slice A5 x.decls.length n5, .slice A6 x.body.length n6] 25)
  have Z1 := Lib.hid (Q1c.out.below bx)
  have Z2 := Lib.hid (Q2b.out.below bx)
  have R1 := Lib.hid (P1.out.go (Gr.of_below _ (below2 (below2 B2.out B3.out) bx)) (fun _ _ h => h))
  have R2 := Lib.hid (P2.out.go (Gr.of_below _ (below2 B3.out bx)) (fun _ _ h => h))
  have R3 := Lib.hid (P3.out.go (Gr.of_below _ bx) (fun _ _ h => h))
  clear bx
  by_cases hep : ep = 0
  · have t1 : (ep != 0) = false := by simpa using hep
    by_cases heq : eq = 0
    · have t2 : (eq != 0) = false := by simpa using heq
      by_cases hskip : q.decls.length > 0 ∧ p.body.length > 0
      · have s1 : (0 : Int) < q.decls.length := by omega
        have s2 : (0 : Int) < p.body.length := by omega
        have s3 : decide ((0 : Int) < q.decls.length) = true := by simpa using hskip.1
        have s4 : decide ((0 : Int) < p.body.length) = true := by simpa using hskip.2
        subst hep heq
        clear hskip
        go_wp2_with fail
        refine (live_calls _ (glob_up Gl.out BW.out)).mono ?_
        rintro e w4 ⟨rfl, hb⟩
        go_wp2_with fail
        go_ret
        exact ⟨rfl, below2 BW.out hb⟩
      · have hc : q.decls = [] ∨ p.body = [] := by
          rcases Nat.eq_zero_or_pos q.decls.length with h | h
          · exact Or.inl (List.eq_nil_of_length_eq_zero h)
          · rcases Nat.eq_zero_or_pos p.body.length with h2 | h2
            · exact Or.inr (List.eq_nil_of_length_eq_zero h2)
            · exact absurd ⟨h, h2⟩ hskip
        have hres := Law.out hep heq hc
        subst hep heq
        clear hskip
        rcases hres with h5 | ⟨h5, hpp, hll⟩
        · subst h5
          by_cases hq : 0 < q.decls.length
          · have s1 : (0 : Int) < q.decls.length := by omega
            have s3 : decide ((0 : Int) < q.decls.length) = true := by simpa using hq
            have s5 : p.body.length = 0 := by rcases hc with h | h; rw [h] at hq; simp at hq; rw [h]; rfl
            have s2 : (p.body.length : Int) ≤ 0 := by omega
            have s4 : decide ((0 : Int) < p.body.length) = false := by simp [s5]
            clear s5 hq hc
            go_wp2_with fail
            refine (live_calls _ (glob_up Gl.out BW.out)).mono ?_
            rintro e w4 ⟨rfl, hb⟩
            go_wp2_with fail
            go_ret
            exact ⟨rfl, below2 BW.out hb⟩
          · have s1 : (q.decls.length : Int) ≤ 0 := by omega
            have s3 : decide ((0 : Int) < q.decls.length) = false := by simpa using hq
            clear hq hc
            go_wp2_with fail
            refine (live_calls _ (glob_up Gl.out BW.out)).mono ?_
            rintro e w4 ⟨rfl, hb⟩
            go_wp2_with fail
            go_ret
            exact ⟨rfl, below2 BW.out hb⟩
        · subst h5
          have hb1 := pPoints_le p
          have hb2 := pPoints_le q
          have hs1 : IntKind.i64.wrap (pPoints p + pPoints q) = pPoints p + pPoints q := IntWalk.i64_in _ (by omega)
          have hl1 : p.decls.length ≤ 140737488355328 := R1.out.dle
          have hl2 : q.decls.length ≤ 140737488355328 := R2.out.dle
          have hs2 : IntKind.i64.wrap ((p.decls.length : Int) + (q.decls.length : Int)) = (p.decls.length : Int) + (q.decls.length : Int) := IntWalk.i64_in _ (by omega)
          have e1 : (pPoints x == pPoints p + pPoints q) = true := by rw [hpp]; simp
          have e2 : ((x.decls.length : Int) == (p.decls.length : Int) + (q.decls.length : Int)) = true := by rw [hll]; simp
          have HBx := Lib.hid (below_drw (w3.alloc (.cells #[.slice A5 x.decls.length n5, .slice A6 x.body.length n6] 25)))
          have HP := Lib.hid hpp
          have HL2 := Lib.hid hll
          by_cases hq : 0 < q.decls.length
          · have s1 : (0 : Int) < q.decls.length := by omega
            have s3 : decide ((0 : Int) < q.decls.length) = true := by simpa using hq
            have s5 : p.body.length = 0 := by rcases hc with h | h; rw [h] at hq; simp at hq; rw [h]; rfl
            have s2 : (p.body.length : Int) ≤ 0 := by omega
            have s4 : decide ((0 : Int) < p.body.length) = false := by simp [s5]
            clear s5 hq hc
            clear hpp hll
            go_wp2_with fail
            go_region_held3 (fun w' => w'.cell? ⟨w1.heap.size, 0, none⟩ = some (.slice A1 p.decls.length n1) ∧ w'.cell? ⟨w1.heap.size, 1, none⟩ = some (.slice A2 p.body.length n2) ∧ w'.cell? ⟨w2.heap.size, 0, none⟩ = some (.slice A3 q.decls.length n3) ∧ w'.cell? ⟨w2.heap.size, 1, none⟩ = some (.slice A4 q.body.length n4) ∧ w'.cell? ⟨w3.heap.size, 0, none⟩ = some (.slice A5 x.decls.length n5) ∧ w'.cell? ⟨w3.heap.size, 1, none⟩ = some (.slice A6 x.body.length n6)) (first | exact hK | go_keep) (first | (go_at_call 13; refine (live_calls _ (glob_up (glob_up Gl.out BW.out) HBx.out)).mono ?_; rintro e w5 ⟨rfl, hb⟩; have HBx := Lib.hid (below2 HBx.out hb); clear hb; have hK := keep6 (Z1.out.below HBx.out) (Z2.out.below HBx.out) (Q3.out.below HBx.out)) | (go_at_call_of 20 A1; refine (points_all p _ _ (R1.out.go (Gr.of_below _ HBx.out) (fun _ _ h => h)) Tp.out).mono ?_; rintro e w5 ⟨rfl, hb⟩; have HBx := Lib.hid (below2 HBx.out hb); clear hb; have hK := keep6 (Z1.out.below HBx.out) (Z2.out.below HBx.out) (Q3.out.below HBx.out)) | (go_at_call_of 20 A3; refine (points_all q _ _ (R2.out.go (Gr.of_below _ HBx.out) (fun _ _ h => h)) Tq.out).mono ?_; rintro e w5 ⟨rfl, hb⟩; have HBx := Lib.hid (below2 HBx.out hb); clear hb; have hK := keep6 (Z1.out.below HBx.out) (Z2.out.below HBx.out) (Q3.out.below HBx.out)) | (go_at_call_of 20 A5; refine (points_all x _ _ (R3.out.go (Gr.of_below _ HBx.out) (fun _ _ h => h)) Tx.out).mono ?_; rintro e w5 ⟨rfl, hb⟩; have HBx := Lib.hid (below2 HBx.out hb); clear hb; have hK := keep6 (Z1.out.below HBx.out) (Z2.out.below HBx.out) (Q3.out.below HBx.out)) | fail)
            all_goals
              go_wp2_with fail
              go_ret
              exact ⟨rfl, below2 BW.out HBx.out⟩
          · have s1 : (q.decls.length : Int) ≤ 0 := by omega
            have s3 : decide ((0 : Int) < q.decls.length) = false := by simpa using hq
            clear hq hc
            clear hpp hll
            go_wp2_with fail
            go_region_held3 (fun w' => w'.cell? ⟨w1.heap.size, 0, none⟩ = some (.slice A1 p.decls.length n1) ∧ w'.cell? ⟨w1.heap.size, 1, none⟩ = some (.slice A2 p.body.length n2) ∧ w'.cell? ⟨w2.heap.size, 0, none⟩ = some (.slice A3 q.decls.length n3) ∧ w'.cell? ⟨w2.heap.size, 1, none⟩ = some (.slice A4 q.body.length n4) ∧ w'.cell? ⟨w3.heap.size, 0, none⟩ = some (.slice A5 x.decls.length n5) ∧ w'.cell? ⟨w3.heap.size, 1, none⟩ = some (.slice A6 x.body.length n6)) (first | exact hK | go_keep) (first | (go_at_call 13; refine (live_calls _ (glob_up (glob_up Gl.out BW.out) HBx.out)).mono ?_; rintro e w5 ⟨rfl, hb⟩; have HBx := Lib.hid (below2 HBx.out hb); clear hb; have hK := keep6 (Z1.out.below HBx.out) (Z2.out.below HBx.out) (Q3.out.below HBx.out)) | (go_at_call_of 20 A1; refine (points_all p _ _ (R1.out.go (Gr.of_below _ HBx.out) (fun _ _ h => h)) Tp.out).mono ?_; rintro e w5 ⟨rfl, hb⟩; have HBx := Lib.hid (below2 HBx.out hb); clear hb; have hK := keep6 (Z1.out.below HBx.out) (Z2.out.below HBx.out) (Q3.out.below HBx.out)) | (go_at_call_of 20 A3; refine (points_all q _ _ (R2.out.go (Gr.of_below _ HBx.out) (fun _ _ h => h)) Tq.out).mono ?_; rintro e w5 ⟨rfl, hb⟩; have HBx := Lib.hid (below2 HBx.out hb); clear hb; have hK := keep6 (Z1.out.below HBx.out) (Z2.out.below HBx.out) (Q3.out.below HBx.out)) | (go_at_call_of 20 A5; refine (points_all x _ _ (R3.out.go (Gr.of_below _ HBx.out) (fun _ _ h => h)) Tx.out).mono ?_; rintro e w5 ⟨rfl, hb⟩; have HBx := Lib.hid (below2 HBx.out hb); clear hb; have hK := keep6 (Z1.out.below HBx.out) (Z2.out.below HBx.out) (Q3.out.below HBx.out)) | fail)
            all_goals
              go_wp2_with fail
              go_ret
              exact ⟨rfl, below2 BW.out HBx.out⟩
    · have t2 : (eq != 0) = true := by simpa using heq
      subst hep
      go_wp2_with fail
      refine (live_calls _ (glob_up Gl.out BW.out)).mono ?_
      rintro e w4 ⟨rfl, hb⟩
      go_wp2_with fail
      go_ret
      exact ⟨rfl, below2 BW.out hb⟩
  · have t1 : (ep != 0) = true := by simpa using hep
    go_wp2_with fail
    refine (live_calls _ (glob_up Gl.out BW.out)).mono ?_
    rintro e w4 ⟨rfl, hb⟩
    go_wp2_with fail
    go_ret
    exact ⟨rfl, below2 BW.out hb⟩
end
end Go.Proofs.YtokdcfehnhifhaaGreatDoor
