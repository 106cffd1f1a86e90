/- Statements alone. Statements alone: reads. Statements alone: ifs and whiles. Statements alone: all of them. -/
import Derived.Test.YtokdcfehnhifhaaGreatDoorChk1
import Derived.Test.YtokdcfehnhifhaaGreatDoorPar2
import Derived.Deep.CutRange
namespace Go.Proofs.YtokdcfehnhifhaaGreatDoor
/-! Statements alone. -/
section
set_option linter.unusedVariables false
set_option linter.unusedSimpArgs false
open Go.RowKit

def leafB (s : St) : Bool := decide ((s.then_.length : Int) = 0) && decide ((s.else_.length : Int) = 0)
def valuedB (s : St) : Bool := !decide (s.value.op = 0) && (noneB s.low && noneB s.high)
def stB (s : St) : Bool :=
  if s.do_ = 1 then leafB s && valuedB s && isName s.name && decide ((s.index.length : Int) ≤ 1) && !(s.index.any fun e => decide (e.op = 0))
  else if s.do_ = 2 then leafB s && isName s.name && decide ((s.index.length : Int) = 0) && noneB s.value && boundB s.low && boundB s.high
  else if s.do_ = 3 ∨ s.do_ = 4 then valuedB s && s.name.isEmpty && decide ((s.index.length : Int) = 0) && (decide (s.do_ = 3) || decide ((s.else_.length : Int) = 0))
  else false
/-- What a statement's cells are. -/
theorem StC.form {ok : Nat → Prop} {w : World} {s : St} {cs : List Value} (h : StC ok w s cs) : ∃ A1 c1 ic A2 c2 A3 c3 A4 c4 A5 c5 tc A6 c6 ec,
    cs = [.int .i64 s.do_, .string ⟨s.name.toArray⟩, .slice A1 s.index.length c1, .int .i64 s.value.op, .string ⟨s.value.text.toArray⟩, .int .i64 s.value.ty, .slice A2 s.value.kids.length c2, .int .i64 s.low.op, .string ⟨s.low.text.toArray⟩, .int .i64 s.low.ty, .slice A3 s.low.kids.length c3,
      .int .i64 s.high.op, .string ⟨s.high.text.toArray⟩, .int .i64 s.high.ty, .slice A4 s.high.kids.length c4, .slice A5 s.then_.length c5, .slice A6 s.else_.length c6] ∧
    RdK ok w (.slice A1 s.index.length c1) s.index.length 4 ic ∧ ExsC ok w s.index ic ∧
    ExC ok w s.value [.int .i64 s.value.op, .string ⟨s.value.text.toArray⟩, .int .i64 s.value.ty, .slice A2 s.value.kids.length c2] ∧
    ExC ok w s.low [.int .i64 s.low.op, .string ⟨s.low.text.toArray⟩, .int .i64 s.low.ty, .slice A3 s.low.kids.length c3] ∧
    ExC ok w s.high [.int .i64 s.high.op, .string ⟨s.high.text.toArray⟩, .int .i64 s.high.ty, .slice A4 s.high.kids.length c4] ∧
    RdK ok w (.slice A5 s.then_.length c5) s.then_.length 17 tc ∧ StsC ok w s.then_ tc ∧ RdK ok w (.slice A6 s.else_.length c6) s.else_.length 17 ec ∧ StsC ok w s.else_ ec := by
  obtain ⟨d, n, ix, v, l, hh, t, e⟩ := s
  simp only [StC] at h
  obtain ⟨iv, ic, vc, lc, hc, tv, tc, ev, ec, rfl, h1, h2, h3, h4, h5, h6, h7, h8, h9⟩ := h
  obtain ⟨A1, c1, rfl⟩ := h1.slice
  obtain ⟨A5, c5, rfl⟩ := h6.slice
  obtain ⟨A6, c6, rfl⟩ := h8.slice
  obtain ⟨A2, c2, _, rfl, _, _⟩ := h3.form
  obtain ⟨A3, c3, _, rfl, _, _⟩ := h4.form
  obtain ⟨A4, c4, _, rfl, _, _⟩ := h5.form
  exact ⟨A1, c1, ic, A2, c2, A3, c3, A4, c4, A5, c5, tc, A6, c6, ec, rfl, h1, h2, h3, h4, h5, h6, h7, h8, h9⟩
/-- Rows of one and of two expressions, just made. -/
theorem rows_one {W : World} {x : Ex} {a b c d : Value} {t : TypeId} (hx : ExC (fun _ => True) W x [a, b, c, d]) :
    RdK (fun _ => True) (W.alloc (.cells #[a, b, c, d] t)) (.slice (some ⟨W.heap.size, 0, none⟩) 1 1) [x].length 4 [a, b, c, d] ∧ ExsC (fun _ => True) (W.alloc (.cells #[a, b, c, d] t)) [x] [a, b, c, d] :=
  ⟨(rd_new W #[a, b, c, d] t 1 4 rfl (by omega) (by omega)).k fun _ _ => trivial, by simp only [ExsC]; exact ⟨[a, b, c, d], [], by simp, hx.gr (Gr.of_below _ (bel_alloc _ _)), rfl⟩⟩
theorem rows_two {W : World} {x y : Ex} {a b c d a' b' c' d' : Value} {t : TypeId} (hx : ExC (fun _ => True) W x [a, b, c, d]) (hy : ExC (fun _ => True) W y [a', b', c', d']) :
    RdK (fun _ => True) (W.alloc (.cells #[a, b, c, d, a', b', c', d'] t)) (.slice (some ⟨W.heap.size, 0, none⟩) 2 2) [x, y].length 4 [a, b, c, d, a', b', c', d'] ∧ ExsC (fun _ => True) (W.alloc (.cells #[a, b, c, d, a', b', c', d'] t)) [x, y] [a, b, c, d, a', b', c', d'] :=
  ⟨(rd_new W #[a, b, c, d, a', b', c', d'] t 2 4 rfl (by omega) (by omega)).k fun _ _ => trivial, by simp only [ExsC]; exact ⟨[a, b, c, d], [a', b', c', d'], by simp, hx.gr (Gr.of_below _ (bel_alloc _ _)), [a', b', c', d'], [], by simp, hy.gr (Gr.of_below _ (bel_alloc _ _)), rfl⟩⟩
theorem op_mk (o : Int) (t : List UInt8) (y : Int) (k : List Ex) : (Ex.mk o t y k).op = o := rfl
theorem text_mk (o : Int) (t : List UInt8) (y : Int) (k : List Ex) : (Ex.mk o t y k).text = t := rfl
theorem ty_mk (o : Int) (t : List UInt8) (y : Int) (k : List Ex) : (Ex.mk o t y k).ty = y := rfl
theorem kids_mk (o : Int) (t : List UInt8) (y : Int) (k : List Ex) : (Ex.mk o t y k).kids = k := rfl
theorem cells_kept {w w2 : World} {B : Nat} {cs : Array Value} (h : ∀ j u, cs[j]? = some u → w.cell? ⟨B, j, none⟩ = some u) (hb : Below w.heap.size w w2) (hB : B < w.heap.size) : ∀ j u, cs[j]? = some u → w2.cell? ⟨B, j, none⟩ = some u :=
  fun j u hj => by rw [hb.cell (p := ⟨B, j, none⟩) hB]; exact h j u hj
section
variable {d vo vy : Int} {n vt : List UInt8} {ix vk : List Ex} {l h : Ex} {nt ne nix c1 c2 c3 c4 c5 c6 : Nat} {A1 A2 A3 A4 A5 A6 : Option Addr} {w : World} {ic : List Value} {z an : Bool}
set_option maxRecDepth 20000 in
set_option maxHeartbeats 16000000 in
theorem stmtB_1 (I1 : RowKit.Hid (RdK (fun _ => True) w (.slice A1 nix c1) nix 4 ic)) (I2 : RowKit.Hid (ExsC (fun _ => True) w ix ic)) (Hix : RowKit.Hid (ix.length = nix)) (HA : RowKit.Hid ((ix.any fun e => decide (e.op = 0)) = an))
    (V : RowKit.Hid (ExC (fun _ => True) w (.mk vo vt vy vk) [.int .i64 vo, .string ⟨vt.toArray⟩, .int .i64 vy, .slice A2 vk.length c2])) (L : RowKit.Hid (ExC (fun _ => True) w l [.int .i64 l.op, .string ⟨l.text.toArray⟩, .int .i64 l.ty, .slice A3 l.kids.length c3]))
    (H : RowKit.Hid (ExC (fun _ => True) w h [.int .i64 h.op, .string ⟨h.text.toArray⟩, .int .i64 h.ty, .slice A4 h.kids.length c4])) (TN : RowKit.Hid (n.length ≤ maxLen)) (TL : RowKit.Hid l.tx) (TH : RowKit.Hid h.tx) (HZ : RowKit.Hid (z = (decide ((nt : Int) = 0) && decide ((ne : Int) = 0) && (!decide (vo = 0) && (noneB l && noneB h)) && isName n && decide ((nix : Int) ≤ 1) && !an))) :
    Calls Tryz.prog 81 #[.agg #[.int .i64 1, .string ⟨n.toArray⟩, .slice A1 nix c1, .int .i64 vo, .string ⟨vt.toArray⟩, .int .i64 vy, .slice A2 vk.length c2, .int .i64 l.op, .string ⟨l.text.toArray⟩, .int .i64 l.ty, .slice A3 l.kids.length c3, .int .i64 h.op, .string ⟨h.text.toArray⟩, .int .i64 h.ty, .slice A4 h.kids.length c4, .slice A5 nt c5, .slice A6 ne c6]] w fun r w' => r = .returned (.bool z) ∧ Below w.heap.size w w' := by
  by_cases v0 : vo = 0
  · subst v0
    go_enter Tryz.func81, Tryz.ntmps81
    go_upto_region 1 with fail
    refine wp_named (fun W hb hc hz => ?_)
    have HB := Lib.hid hb
    have X := Lib.hid hc
    have HBlt := Lib.hid (show w.heap.size < W.heap.size by omega)
    clear hb hc hz
    have Xc0 := X.out 0 _ rfl
    have Xc1 := X.out 1 _ rfl
    have Xc2 := X.out 2 _ rfl
    have Xc3 := X.out 3 _ rfl
    have Xc4 := X.out 4 _ rfl
    have Xc5 := X.out 5 _ rfl
    have Xc6 := X.out 6 _ rfl
    have Xc7 := X.out 7 _ rfl
    have Xc8 := X.out 8 _ rfl
    have Xc9 := X.out 9 _ rfl
    have Xc10 := X.out 10 _ rfl
    have Xc11 := X.out 11 _ rfl
    have Xc12 := X.out 12 _ rfl
    have Xc13 := X.out 13 _ rfl
    have Xc14 := X.out 14 _ rfl
    have Xc15 := X.out 15 _ rfl
    have Xc16 := X.out 16 _ rfl
    go_wp2_with (first | (go_at_call 122; refine (none_calls _ _ [l, h] _ _ (rows_two (L.out.gr (Gr.of_below _ HB.out)) (H.out.gr (Gr.of_below _ HB.out))).1 (rows_two (L.out.gr (Gr.of_below _ HB.out)) (H.out.gr (Gr.of_below _ HB.out))).2).mono ?_; rintro r w2 ⟨rfl, hb2⟩; (try clear Xc0); (try clear Xc1); (try clear Xc2); (try clear Xc3); (try clear Xc4); (try clear Xc5); (try clear Xc6); (try clear Xc7); (try clear Xc8); (try clear Xc9); (try clear Xc10); (try clear Xc11); (try clear Xc12); (try clear Xc13); (try clear Xc14); (try clear Xc15); (try clear Xc16); have HB := Lib.hid (below2 (below2 HB.out (by first | exact Below.refl _ _ | exact bel_alloc _ _)) hb2); have X := Lib.hid (cells_kept X.out (below2 (by first | exact Below.refl _ _ | exact bel_alloc _ _) hb2) HBlt.out); have HBlt := Lib.hid (Nat.lt_of_lt_of_le HBlt.out (below2 (by first | exact Below.refl _ _ | exact bel_alloc _ _) hb2).size); have Xc0 := X.out 0 _ rfl; have Xc1 := X.out 1 _ rfl; have Xc2 := X.out 2 _ rfl; clear hb2) | (go_at_call 39; refine (isNameT_calls n _ TN.out).mono ?_; rintro r w2 ⟨rfl, hb2⟩; (try clear Xc0); (try clear Xc1); (try clear Xc2); (try clear Xc3); (try clear Xc4); (try clear Xc5); (try clear Xc6); (try clear Xc7); (try clear Xc8); (try clear Xc9); (try clear Xc10); (try clear Xc11); (try clear Xc12); (try clear Xc13); (try clear Xc14); (try clear Xc15); (try clear Xc16); have HB := Lib.hid (below2 (below2 HB.out (by first | exact Below.refl _ _ | exact bel_alloc _ _)) hb2); have X := Lib.hid (cells_kept X.out (below2 (by first | exact Below.refl _ _ | exact bel_alloc _ _) hb2) HBlt.out); have HBlt := Lib.hid (Nat.lt_of_lt_of_le HBlt.out (below2 (by first | exact Below.refl _ _ | exact bel_alloc _ _) hb2).size); have Xc0 := X.out 0 _ rfl; have Xc1 := X.out 1 _ rfl; have Xc2 := X.out 2 _ rfl; clear hb2) | (go_at_call 123; refine (containsE_calls _ _ noOp_asks (fun a W => by kernel_rfl) (fun _ => True) _ ix ic _ (by rw [Hix.out]; exact I1.out.gr (Gr.of_below _ HB.out)) (I2.out.gr (Gr.of_below _ HB.out))).mono ?_; rw [HA.out]; rintro r w2 ⟨rfl, hb2⟩; (try clear Xc0); (try clear Xc1); (try clear Xc2); (try clear Xc3); (try clear Xc4); (try clear Xc5); (try clear Xc6); (try clear Xc7); (try clear Xc8); (try clear Xc9); (try clear Xc10); (try clear Xc11); (try clear Xc12); (try clear Xc13); (try clear Xc14); (try clear Xc15); (try clear Xc16); have HB := Lib.hid (below2 (below2 HB.out (by first | exact Below.refl _ _ | exact bel_alloc _ _)) hb2); have X := Lib.hid (cells_kept X.out (below2 (by first | exact Below.refl _ _ | exact bel_alloc _ _) hb2) HBlt.out); have HBlt := Lib.hid (Nat.lt_of_lt_of_le HBlt.out (below2 (by first | exact Below.refl _ _ | exact bel_alloc _ _) hb2).size); have Xc0 := X.out 0 _ rfl; have Xc1 := X.out 1 _ rfl; have Xc2 := X.out 2 _ rfl; clear hb2) | fail)
    all_goals go_returns
    all_goals refine ⟨?_, HB.out⟩
    all_goals have hz := HZ.out
    all_goals subst hz
    all_goals (simp_all; try omega; try (by_cases hh : ne = 0 <;> simp [hh]); try (rw [Bool.eq_iff_iff]; simp; done))
  · have v1 : (vo != 0) = true := by simp [v0]
    go_enter Tryz.func81, Tryz.ntmps81
    go_upto_region 1 with fail
    refine wp_named (fun W hb hc hz => ?_)
    have HB := Lib.hid hb
    have X := Lib.hid hc
    have HBlt := Lib.hid (show w.heap.size < W.heap.size by omega)
    clear hb hc hz
    have Xc0 := X.out 0 _ rfl
    have Xc1 := X.out 1 _ rfl
    have Xc2 := X.out 2 _ rfl
    have Xc3 := X.out 3 _ rfl
    have Xc4 := X.out 4 _ rfl
    have Xc5 := X.out 5 _ rfl
    have Xc6 := X.out 6 _ rfl
    have Xc7 := X.out 7 _ rfl
    have Xc8 := X.out 8 _ rfl
    have Xc9 := X.out 9 _ rfl
    have Xc10 := X.out 10 _ rfl
    have Xc11 := X.out 11 _ rfl
    have Xc12 := X.out 12 _ rfl
    have Xc13 := X.out 13 _ rfl
    have Xc14 := X.out 14 _ rfl
    have Xc15 := X.out 15 _ rfl
    have Xc16 := X.out 16 _ rfl
    go_wp2_with (first | (go_at_call 122; refine (none_calls _ _ [l, h] _ _ (rows_two (L.out.gr (Gr.of_below _ HB.out)) (H.out.gr (Gr.of_below _ HB.out))).1 (rows_two (L.out.gr (Gr.of_below _ HB.out)) (H.out.gr (Gr.of_below _ HB.out))).2).mono ?_; rintro r w2 ⟨rfl, hb2⟩; (try clear Xc0); (try clear Xc1); (try clear Xc2); (try clear Xc3); (try clear Xc4); (try clear Xc5); (try clear Xc6); (try clear Xc7); (try clear Xc8); (try clear Xc9); (try clear Xc10); (try clear Xc11); (try clear Xc12); (try clear Xc13); (try clear Xc14); (try clear Xc15); (try clear Xc16); have HB := Lib.hid (below2 (below2 HB.out (by first | exact Below.refl _ _ | exact bel_alloc _ _)) hb2); have X := Lib.hid (cells_kept X.out (below2 (by first | exact Below.refl _ _ | exact bel_alloc _ _) hb2) HBlt.out); have HBlt := Lib.hid (Nat.lt_of_lt_of_le HBlt.out (below2 (by first | exact Below.refl _ _ | exact bel_alloc _ _) hb2).size); have Xc0 := X.out 0 _ rfl; have Xc1 := X.out 1 _ rfl; have Xc2 := X.out 2 _ rfl; clear hb2) | (go_at_call 39; refine (isNameT_calls n _ TN.out).mono ?_; rintro r w2 ⟨rfl, hb2⟩; (try clear Xc0); (try clear Xc1); (try clear Xc2); (try clear Xc3); (try clear Xc4); (try clear Xc5); (try clear Xc6); (try clear Xc7); (try clear Xc8); (try clear Xc9); (try clear Xc10); (try clear Xc11); (try clear Xc12); (try clear Xc13); (try clear Xc14); (try clear Xc15); (try clear Xc16); have HB := Lib.hid (below2 (below2 HB.out (by first | exact Below.refl _ _ | exact bel_alloc _ _)) hb2); have X := Lib.hid (cells_kept X.out (below2 (by first | exact Below.refl _ _ | exact bel_alloc _ _) hb2) HBlt.out); have HBlt := Lib.hid (Nat.lt_of_lt_of_le HBlt.out (below2 (by first | exact Below.refl _ _ | exact bel_alloc _ _) hb2).size); have Xc0 := X.out 0 _ rfl; have Xc1 := X.out 1 _ rfl; have Xc2 := X.out 2 _ rfl; clear hb2) | (go_at_call 123; refine (containsE_calls _ _ noOp_asks (fun a W => by kernel_rfl) (fun _ => True) _ ix ic _ (by rw [Hix.out]; exact I1.out.gr (Gr.of_below _ HB.out)) (I2.out.gr (Gr.of_below _ HB.out))).mono ?_; rw [HA.out]; rintro r w2 ⟨rfl, hb2⟩; (try clear Xc0); (try clear Xc1); (try clear Xc2); (try clear Xc3); (try clear Xc4); (try clear Xc5); (try clear Xc6); (try clear Xc7); (try clear Xc8); (try clear Xc9); (try clear Xc10); (try clear Xc11); (try clear Xc12); (try clear Xc13); (try clear Xc14); (try clear Xc15); (try clear Xc16); have HB := Lib.hid (below2 (below2 HB.out (by first | exact Below.refl _ _ | exact bel_alloc _ _)) hb2); have X := Lib.hid (cells_kept X.out (below2 (by first | exact Below.refl _ _ | exact bel_alloc _ _) hb2) HBlt.out); have HBlt := Lib.hid (Nat.lt_of_lt_of_le HBlt.out (below2 (by first | exact Below.refl _ _ | exact bel_alloc _ _) hb2).size); have Xc0 := X.out 0 _ rfl; have Xc1 := X.out 1 _ rfl; have Xc2 := X.out 2 _ rfl; clear hb2) | fail)
    all_goals go_returns
    all_goals refine ⟨?_, HB.out⟩
    all_goals have hz := HZ.out
    all_goals subst hz
    all_goals (simp_all; try omega; try (by_cases hh : ne = 0 <;> simp [hh]); try (rw [Bool.eq_iff_iff]; simp; done))
set_option maxRecDepth 20000 in
set_option maxHeartbeats 16000000 in
theorem stmtB_0 (I1 : RowKit.Hid (RdK (fun _ => True) w (.slice A1 nix c1) nix 4 ic)) (I2 : RowKit.Hid (ExsC (fun _ => True) w ix ic)) (Hix : RowKit.Hid (ix.length = nix)) (HA : RowKit.Hid ((ix.any fun e => decide (e.op = 0)) = an))
    (V : RowKit.Hid (ExC (fun _ => True) w (.mk vo vt vy vk) [.int .i64 vo, .string ⟨vt.toArray⟩, .int .i64 vy, .slice A2 vk.length c2])) (L : RowKit.Hid (ExC (fun _ => True) w l [.int .i64 l.op, .string ⟨l.text.toArray⟩, .int .i64 l.ty, .slice A3 l.kids.length c3]))
    (H : RowKit.Hid (ExC (fun _ => True) w h [.int .i64 h.op, .string ⟨h.text.toArray⟩, .int .i64 h.ty, .slice A4 h.kids.length c4])) (TN : RowKit.Hid (n.length ≤ maxLen)) (TL : RowKit.Hid l.tx) (TH : RowKit.Hid h.tx) (d1 : ¬ d = 1) (d2 : ¬ d = 2) (d3 : ¬ d = 3) (d4 : ¬ d = 4) (HZ : RowKit.Hid (z = (false))) :
    Calls Tryz.prog 81 #[.agg #[.int .i64 d, .string ⟨n.toArray⟩, .slice A1 nix c1, .int .i64 vo, .string ⟨vt.toArray⟩, .int .i64 vy, .slice A2 vk.length c2, .int .i64 l.op, .string ⟨l.text.toArray⟩, .int .i64 l.ty, .slice A3 l.kids.length c3, .int .i64 h.op, .string ⟨h.text.toArray⟩, .int .i64 h.ty, .slice A4 h.kids.length c4, .slice A5 nt c5, .slice A6 ne c6]] w fun r w' => r = .returned (.bool z) ∧ Below w.heap.size w w' := by
  by_cases v0 : vo = 0
  · subst v0
    go_enter Tryz.func81, Tryz.ntmps81
    go_upto_region 1 with fail
    refine wp_named (fun W hb hc hz => ?_)
    have HB := Lib.hid hb
    have X := Lib.hid hc
    have HBlt := Lib.hid (show w.heap.size < W.heap.size by omega)
    clear hb hc hz
    have Xc0 := X.out 0 _ rfl
    have Xc1 := X.out 1 _ rfl
    have Xc2 := X.out 2 _ rfl
    have Xc3 := X.out 3 _ rfl
    have Xc4 := X.out 4 _ rfl
    have Xc5 := X.out 5 _ rfl
    have Xc6 := X.out 6 _ rfl
    have Xc7 := X.out 7 _ rfl
    have Xc8 := X.out 8 _ rfl
    have Xc9 := X.out 9 _ rfl
    have Xc10 := X.out 10 _ rfl
    have Xc11 := X.out 11 _ rfl
    have Xc12 := X.out 12 _ rfl
    have Xc13 := X.out 13 _ rfl
    have Xc14 := X.out 14 _ rfl
    have Xc15 := X.out 15 _ rfl
    have Xc16 := X.out 16 _ rfl
    go_wp2_with (first | (go_at_call 122; refine (none_calls _ _ [l, h] _ _ (rows_two (L.out.gr (Gr.of_below _ HB.out)) (H.out.gr (Gr.of_below _ HB.out))).1 (rows_two (L.out.gr (Gr.of_below _ HB.out)) (H.out.gr (Gr.of_below _ HB.out))).2).mono ?_; rintro r w2 ⟨rfl, hb2⟩; (try clear Xc0); (try clear Xc1); (try clear Xc2); (try clear Xc3); (try clear Xc4); (try clear Xc5); (try clear Xc6); (try clear Xc7); (try clear Xc8); (try clear Xc9); (try clear Xc10); (try clear Xc11); (try clear Xc12); (try clear Xc13); (try clear Xc14); (try clear Xc15); (try clear Xc16); have HB := Lib.hid (below2 (below2 HB.out (by first | exact Below.refl _ _ | exact bel_alloc _ _)) hb2); have X := Lib.hid (cells_kept X.out (below2 (by first | exact Below.refl _ _ | exact bel_alloc _ _) hb2) HBlt.out); have HBlt := Lib.hid (Nat.lt_of_lt_of_le HBlt.out (below2 (by first | exact Below.refl _ _ | exact bel_alloc _ _) hb2).size); have Xc0 := X.out 0 _ rfl; clear hb2) | fail)
    all_goals go_returns
    all_goals refine ⟨?_, HB.out⟩
    all_goals have hz := HZ.out
    all_goals subst hz
    all_goals (simp_all; try omega; try (by_cases hh : ne = 0 <;> simp [hh]); try (rw [Bool.eq_iff_iff]; simp; done))
  · have v1 : (vo != 0) = true := by simp [v0]
    go_enter Tryz.func81, Tryz.ntmps81
    go_upto_region 1 with fail
    refine wp_named (fun W hb hc hz => ?_)
    have HB := Lib.hid hb
    have X := Lib.hid hc
    have HBlt := Lib.hid (show w.heap.size < W.heap.size by omega)
    clear hb hc hz
    have Xc0 := X.out 0 _ rfl
    have Xc1 := X.out 1 _ rfl
    have Xc2 := X.out 2 _ rfl
    have Xc3 := X.out 3 _ rfl
    have Xc4 := X.out 4 _ rfl
    have Xc5 := X.out 5 _ rfl
    have Xc6 := X.out 6 _ rfl
    have Xc7 := X.out 7 _ rfl
    have Xc8 := X.out 8 _ rfl
    have Xc9 := X.out 9 _ rfl
    have Xc10 := X.out 10 _ rfl
    have Xc11 := X.out 11 _ rfl
    have Xc12 := X.out 12 _ rfl
    have Xc13 := X.out 13 _ rfl
    have Xc14 := X.out 14 _ rfl
    have Xc15 := X.out 15 _ rfl
    have Xc16 := X.out 16 _ rfl
    go_wp2_with (first | (go_at_call 122; refine (none_calls _ _ [l, h] _ _ (rows_two (L.out.gr (Gr.of_below _ HB.out)) (H.out.gr (Gr.of_below _ HB.out))).1 (rows_two (L.out.gr (Gr.of_below _ HB.out)) (H.out.gr (Gr.of_below _ HB.out))).2).mono ?_; rintro r w2 ⟨rfl, hb2⟩; (try clear Xc0); (try clear Xc1); (try clear Xc2); (try clear Xc3); (try clear Xc4); (try clear Xc5); (try clear Xc6); (try clear Xc7); (try clear Xc8); (try clear Xc9); (try clear Xc10); (try clear Xc11); (try clear Xc12); (try clear Xc13); (try clear Xc14); (try clear Xc15); (try clear Xc16); have HB := Lib.hid (below2 (below2 HB.out (by first | exact Below.refl _ _ | exact bel_alloc _ _)) hb2); have X := Lib.hid (cells_kept X.out (below2 (by first | exact Below.refl _ _ | exact bel_alloc _ _) hb2) HBlt.out); have HBlt := Lib.hid (Nat.lt_of_lt_of_le HBlt.out (below2 (by first | exact Below.refl _ _ | exact bel_alloc _ _) hb2).size); have Xc0 := X.out 0 _ rfl; clear hb2) | fail)
    all_goals go_returns
    all_goals refine ⟨?_, HB.out⟩
    all_goals have hz := HZ.out
    all_goals subst hz
    all_goals (simp_all; try omega; try (by_cases hh : ne = 0 <;> simp [hh]); try (rw [Bool.eq_iff_iff]; simp; done))
end
end

/-! Statements alone: reads. -/
section
set_option linter.unusedVariables false
set_option linter.unusedSimpArgs false
open Go.RowKit

section
variable {d vo vy : Int} {n vt : List UInt8} {ix vk : List Ex} {l h : Ex} {nt ne nix c1 c2 c3 c4 c5 c6 : Nat} {A1 A2 A3 A4 A5 A6 : Option Addr} {w : World} {ic : List Value} {z an : Bool}
set_option maxRecDepth 20000 in
set_option maxHeartbeats 16000000 in
theorem stmtB_2 (I1 : RowKit.Hid (RdK (fun _ => True) w (.slice A1 nix c1) nix 4 ic)) (I2 : RowKit.Hid (ExsC (fun _ => True) w ix ic)) (Hix : RowKit.Hid (ix.length = nix)) (HA : RowKit.Hid ((ix.any fun e => decide (e.op = 0)) = an))
    (V : RowKit.Hid (ExC (fun _ => True) w (.mk vo vt vy vk) [.int .i64 vo, .string ⟨vt.toArray⟩, .int .i64 vy, .slice A2 vk.length c2])) (L : RowKit.Hid (ExC (fun _ => True) w l [.int .i64 l.op, .string ⟨l.text.toArray⟩, .int .i64 l.ty, .slice A3 l.kids.length c3]))
    (H : RowKit.Hid (ExC (fun _ => True) w h [.int .i64 h.op, .string ⟨h.text.toArray⟩, .int .i64 h.ty, .slice A4 h.kids.length c4])) (TN : RowKit.Hid (n.length ≤ maxLen)) (TL : RowKit.Hid l.tx) (TH : RowKit.Hid h.tx) (HZ : RowKit.Hid (z = (decide ((nt : Int) = 0) && decide ((ne : Int) = 0) && isName n && decide ((nix : Int) = 0) && noneB (.mk vo vt vy vk) && boundB l && boundB h))) :
    Calls Tryz.prog 81 #[.agg #[.int .i64 2, .string ⟨n.toArray⟩, .slice A1 nix c1, .int .i64 vo, .string ⟨vt.toArray⟩, .int .i64 vy, .slice A2 vk.length c2, .int .i64 l.op, .string ⟨l.text.toArray⟩, .int .i64 l.ty, .slice A3 l.kids.length c3, .int .i64 h.op, .string ⟨h.text.toArray⟩, .int .i64 h.ty, .slice A4 h.kids.length c4, .slice A5 nt c5, .slice A6 ne c6]] w fun r w' => r = .returned (.bool z) ∧ Below w.heap.size w w' := by
  by_cases v0 : vo = 0
  · subst v0
    go_enter Tryz.func81, Tryz.ntmps81
    go_upto_region 1 with fail
    refine wp_named (fun W hb hc hz => ?_)
    have HB := Lib.hid hb
    have X := Lib.hid hc
    have HBlt := Lib.hid (show w.heap.size < W.heap.size by omega)
    clear hb hc hz
    have Xc0 := X.out 0 _ rfl
    have Xc1 := X.out 1 _ rfl
    have Xc2 := X.out 2 _ rfl
    have Xc3 := X.out 3 _ rfl
    have Xc4 := X.out 4 _ rfl
    have Xc5 := X.out 5 _ rfl
    have Xc6 := X.out 6 _ rfl
    have Xc7 := X.out 7 _ rfl
    have Xc8 := X.out 8 _ rfl
    have Xc9 := X.out 9 _ rfl
    have Xc10 := X.out 10 _ rfl
    have Xc11 := X.out 11 _ rfl
    have Xc12 := X.out 12 _ rfl
    have Xc13 := X.out 13 _ rfl
    have Xc14 := X.out 14 _ rfl
    have Xc15 := X.out 15 _ rfl
    have Xc16 := X.out 16 _ rfl
    go_wp2_with (first | (go_at_call_of 122 (2 : Nat); refine (none_calls _ _ [l, h] _ _ (rows_two (L.out.gr (Gr.of_below _ HB.out)) (H.out.gr (Gr.of_below _ HB.out))).1 (rows_two (L.out.gr (Gr.of_below _ HB.out)) (H.out.gr (Gr.of_below _ HB.out))).2).mono ?_; rintro r w2 ⟨rfl, hb2⟩; (try clear Xc0); (try clear Xc1); (try clear Xc2); (try clear Xc3); (try clear Xc4); (try clear Xc5); (try clear Xc6); (try clear Xc7); (try clear Xc8); (try clear Xc9); (try clear Xc10); (try clear Xc11); (try clear Xc12); (try clear Xc13); (try clear Xc14); (try clear Xc15); (try clear Xc16); have HB := Lib.hid (below2 (below2 HB.out (by first | exact Below.refl _ _ | exact bel_alloc _ _)) hb2); have X := Lib.hid (cells_kept X.out (below2 (by first | exact Below.refl _ _ | exact bel_alloc _ _) hb2) HBlt.out); have HBlt := Lib.hid (Nat.lt_of_lt_of_le HBlt.out (below2 (by first | exact Below.refl _ _ | exact bel_alloc _ _) hb2).size); have Xc0 := X.out 0 _ rfl; have Xc1 := X.out 1 _ rfl; have Xc2 := X.out 2 _ rfl; have Xc3 := X.out 3 _ rfl; have Xc4 := X.out 4 _ rfl; have Xc5 := X.out 5 _ rfl; have Xc6 := X.out 6 _ rfl; have Xc7 := X.out 7 _ rfl; have Xc8 := X.out 8 _ rfl; have Xc9 := X.out 9 _ rfl; have Xc10 := X.out 10 _ rfl; have Xc11 := X.out 11 _ rfl; have Xc12 := X.out 12 _ rfl; have Xc13 := X.out 13 _ rfl; have Xc14 := X.out 14 _ rfl; clear hb2) | (go_at_call 122; refine (none_calls _ _ [.mk 0 vt vy vk] _ _ (rows_one (V.out.gr (Gr.of_below _ HB.out))).1 (rows_one (V.out.gr (Gr.of_below _ HB.out))).2).mono ?_; rintro r w2 ⟨rfl, hb2⟩; (try clear Xc0); (try clear Xc1); (try clear Xc2); (try clear Xc3); (try clear Xc4); (try clear Xc5); (try clear Xc6); (try clear Xc7); (try clear Xc8); (try clear Xc9); (try clear Xc10); (try clear Xc11); (try clear Xc12); (try clear Xc13); (try clear Xc14); (try clear Xc15); (try clear Xc16); have HB := Lib.hid (below2 (below2 HB.out (by first | exact Below.refl _ _ | exact bel_alloc _ _)) hb2); have X := Lib.hid (cells_kept X.out (below2 (by first | exact Below.refl _ _ | exact bel_alloc _ _) hb2) HBlt.out); have HBlt := Lib.hid (Nat.lt_of_lt_of_le HBlt.out (below2 (by first | exact Below.refl _ _ | exact bel_alloc _ _) hb2).size); have Xc0 := X.out 0 _ rfl; have Xc1 := X.out 1 _ rfl; have Xc2 := X.out 2 _ rfl; have Xc3 := X.out 3 _ rfl; have Xc4 := X.out 4 _ rfl; have Xc5 := X.out 5 _ rfl; have Xc6 := X.out 6 _ rfl; have Xc7 := X.out 7 _ rfl; have Xc8 := X.out 8 _ rfl; have Xc9 := X.out 9 _ rfl; have Xc10 := X.out 10 _ rfl; have Xc11 := X.out 11 _ rfl; have Xc12 := X.out 12 _ rfl; have Xc13 := X.out 13 _ rfl; have Xc14 := X.out 14 _ rfl; clear hb2) | (go_at_call 39; refine (isNameT_calls n _ TN.out).mono ?_; rintro r w2 ⟨rfl, hb2⟩; (try clear Xc0); (try clear Xc1); (try clear Xc2); (try clear Xc3); (try clear Xc4); (try clear Xc5); (try clear Xc6); (try clear Xc7); (try clear Xc8); (try clear Xc9); (try clear Xc10); (try clear Xc11); (try clear Xc12); (try clear Xc13); (try clear Xc14); (try clear Xc15); (try clear Xc16); have HB := Lib.hid (below2 (below2 HB.out (by first | exact Below.refl _ _ | exact bel_alloc _ _)) hb2); have X := Lib.hid (cells_kept X.out (below2 (by first | exact Below.refl _ _ | exact bel_alloc _ _) hb2) HBlt.out); have HBlt := Lib.hid (Nat.lt_of_lt_of_le HBlt.out (below2 (by first | exact Below.refl _ _ | exact bel_alloc _ _) hb2).size); have Xc0 := X.out 0 _ rfl; have Xc1 := X.out 1 _ rfl; have Xc2 := X.out 2 _ rfl; have Xc3 := X.out 3 _ rfl; have Xc4 := X.out 4 _ rfl; have Xc5 := X.out 5 _ rfl; have Xc6 := X.out 6 _ rfl; have Xc7 := X.out 7 _ rfl; have Xc8 := X.out 8 _ rfl; have Xc9 := X.out 9 _ rfl; have Xc10 := X.out 10 _ rfl; have Xc11 := X.out 11 _ rfl; have Xc12 := X.out 12 _ rfl; have Xc13 := X.out 13 _ rfl; have Xc14 := X.out 14 _ rfl; clear hb2) | (go_at_call_of 125 (l.op); refine (boundE_calls l A3 c3 _ TL.out (L.out.gr (Gr.of_below _ HB.out))).mono ?_; rintro r w2 ⟨rfl, hb2⟩; (try clear Xc0); (try clear Xc1); (try clear Xc2); (try clear Xc3); (try clear Xc4); (try clear Xc5); (try clear Xc6); (try clear Xc7); (try clear Xc8); (try clear Xc9); (try clear Xc10); (try clear Xc11); (try clear Xc12); (try clear Xc13); (try clear Xc14); (try clear Xc15); (try clear Xc16); have HB := Lib.hid (below2 (below2 HB.out (by first | exact Below.refl _ _ | exact bel_alloc _ _)) hb2); have X := Lib.hid (cells_kept X.out (below2 (by first | exact Below.refl _ _ | exact bel_alloc _ _) hb2) HBlt.out); have HBlt := Lib.hid (Nat.lt_of_lt_of_le HBlt.out (below2 (by first | exact Below.refl _ _ | exact bel_alloc _ _) hb2).size); have Xc0 := X.out 0 _ rfl; have Xc1 := X.out 1 _ rfl; have Xc2 := X.out 2 _ rfl; have Xc3 := X.out 3 _ rfl; have Xc4 := X.out 4 _ rfl; have Xc5 := X.out 5 _ rfl; have Xc6 := X.out 6 _ rfl; have Xc7 := X.out 7 _ rfl; have Xc8 := X.out 8 _ rfl; have Xc9 := X.out 9 _ rfl; have Xc10 := X.out 10 _ rfl; have Xc11 := X.out 11 _ rfl; have Xc12 := X.out 12 _ rfl; have Xc13 := X.out 13 _ rfl; have Xc14 := X.out 14 _ rfl; clear hb2) | (go_at_call_of 125 (h.op); refine (boundE_calls h A4 c4 _ TH.out (H.out.gr (Gr.of_below _ HB.out))).mono ?_; rintro r w2 ⟨rfl, hb2⟩; (try clear Xc0); (try clear Xc1); (try clear Xc2); (try clear Xc3); (try clear Xc4); (try clear Xc5); (try clear Xc6); (try clear Xc7); (try clear Xc8); (try clear Xc9); (try clear Xc10); (try clear Xc11); (try clear Xc12); (try clear Xc13); (try clear Xc14); (try clear Xc15); (try clear Xc16); have HB := Lib.hid (below2 (below2 HB.out (by first | exact Below.refl _ _ | exact bel_alloc _ _)) hb2); have X := Lib.hid (cells_kept X.out (below2 (by first | exact Below.refl _ _ | exact bel_alloc _ _) hb2) HBlt.out); have HBlt := Lib.hid (Nat.lt_of_lt_of_le HBlt.out (below2 (by first | exact Below.refl _ _ | exact bel_alloc _ _) hb2).size); have Xc0 := X.out 0 _ rfl; have Xc1 := X.out 1 _ rfl; have Xc2 := X.out 2 _ rfl; have Xc3 := X.out 3 _ rfl; have Xc4 := X.out 4 _ rfl; have Xc5 := X.out 5 _ rfl; have Xc6 := X.out 6 _ rfl; have Xc7 := X.out 7 _ rfl; have Xc8 := X.out 8 _ rfl; have Xc9 := X.out 9 _ rfl; have Xc10 := X.out 10 _ rfl; have Xc11 := X.out 11 _ rfl; have Xc12 := X.out 12 _ rfl; have Xc13 := X.out 13 _ rfl; have Xc14 := X.out 14 _ rfl; clear hb2) | fail)
    all_goals go_returns
    all_goals refine ⟨?_, HB.out⟩
    all_goals have hz := HZ.out
    all_goals subst hz
    all_goals (simp_all; try omega; try (by_cases hh : ne = 0 <;> simp [hh]); try (rw [Bool.eq_iff_iff]; simp; done))
  · have v1 : (vo != 0) = true := by simp [v0]
    go_enter Tryz.func81, Tryz.ntmps81
    go_upto_region 1 with fail
    refine wp_named (fun W hb hc hz => ?_)
    have HB := Lib.hid hb
    have X := Lib.hid hc
    have HBlt := Lib.hid (show w.heap.size < W.heap.size by omega)
    clear hb hc hz
    have Xc0 := X.out 0 _ rfl
    have Xc1 := X.out 1 _ rfl
    have Xc2 := X.out 2 _ rfl
    have Xc3 := X.out 3 _ rfl
    have Xc4 := X.out 4 _ rfl
    have Xc5 := X.out 5 _ rfl
    have Xc6 := X.out 6 _ rfl
    have Xc7 := X.out 7 _ rfl
    have Xc8 := X.out 8 _ rfl
    have Xc9 := X.out 9 _ rfl
    have Xc10 := X.out 10 _ rfl
    have Xc11 := X.out 11 _ rfl
    have Xc12 := X.out 12 _ rfl
    have Xc13 := X.out 13 _ rfl
    have Xc14 := X.out 14 _ rfl
    have Xc15 := X.out 15 _ rfl
    have Xc16 := X.out 16 _ rfl
    go_wp2_with (first | (go_at_call_of 122 (2 : Nat); refine (none_calls _ _ [l, h] _ _ (rows_two (L.out.gr (Gr.of_below _ HB.out)) (H.out.gr (Gr.of_below _ HB.out))).1 (rows_two (L.out.gr (Gr.of_below _ HB.out)) (H.out.gr (Gr.of_below _ HB.out))).2).mono ?_; rintro r w2 ⟨rfl, hb2⟩; (try clear Xc0); (try clear Xc1); (try clear Xc2); (try clear Xc3); (try clear Xc4); (try clear Xc5); (try clear Xc6); (try clear Xc7); (try clear Xc8); (try clear Xc9); (try clear Xc10); (try clear Xc11); (try clear Xc12); (try clear Xc13); (try clear Xc14); (try clear Xc15); (try clear Xc16); have HB := Lib.hid (below2 (below2 HB.out (by first | exact Below.refl _ _ | exact bel_alloc _ _)) hb2); have X := Lib.hid (cells_kept X.out (below2 (by first | exact Below.refl _ _ | exact bel_alloc _ _) hb2) HBlt.out); have HBlt := Lib.hid (Nat.lt_of_lt_of_le HBlt.out (below2 (by first | exact Below.refl _ _ | exact bel_alloc _ _) hb2).size); have Xc0 := X.out 0 _ rfl; have Xc1 := X.out 1 _ rfl; have Xc2 := X.out 2 _ rfl; have Xc3 := X.out 3 _ rfl; have Xc4 := X.out 4 _ rfl; have Xc5 := X.out 5 _ rfl; have Xc6 := X.out 6 _ rfl; have Xc7 := X.out 7 _ rfl; have Xc8 := X.out 8 _ rfl; have Xc9 := X.out 9 _ rfl; have Xc10 := X.out 10 _ rfl; have Xc11 := X.out 11 _ rfl; have Xc12 := X.out 12 _ rfl; have Xc13 := X.out 13 _ rfl; have Xc14 := X.out 14 _ rfl; clear hb2) | (go_at_call 122; refine (none_calls _ _ [.mk vo vt vy vk] _ _ (rows_one (V.out.gr (Gr.of_below _ HB.out))).1 (rows_one (V.out.gr (Gr.of_below _ HB.out))).2).mono ?_; rintro r w2 ⟨rfl, hb2⟩; (try clear Xc0); (try clear Xc1); (try clear Xc2); (try clear Xc3); (try clear Xc4); (try clear Xc5); (try clear Xc6); (try clear Xc7); (try clear Xc8); (try clear Xc9); (try clear Xc10); (try clear Xc11); (try clear Xc12); (try clear Xc13); (try clear Xc14); (try clear Xc15); (try clear Xc16); have HB := Lib.hid (below2 (below2 HB.out (by first | exact Below.refl _ _ | exact bel_alloc _ _)) hb2); have X := Lib.hid (cells_kept X.out (below2 (by first | exact Below.refl _ _ | exact bel_alloc _ _) hb2) HBlt.out); have HBlt := Lib.hid (Nat.lt_of_lt_of_le HBlt.out (below2 (by first | exact Below.refl _ _ | exact bel_alloc _ _) hb2).size); have Xc0 := X.out 0 _ rfl; have Xc1 := X.out 1 _ rfl; have Xc2 := X.out 2 _ rfl; have Xc3 := X.out 3 _ rfl; have Xc4 := X.out 4 _ rfl; have Xc5 := X.out 5 _ rfl; have Xc6 := X.out 6 _ rfl; have Xc7 := X.out 7 _ rfl; have Xc8 := X.out 8 _ rfl; have Xc9 := X.out 9 _ rfl; have Xc10 := X.out 10 _ rfl; have Xc11 := X.out 11 _ rfl; have Xc12 := X.out 12 _ rfl; have Xc13 := X.out 13 _ rfl; have Xc14 := X.out 14 _ rfl; clear hb2) | (go_at_call 39; refine (isNameT_calls n _ TN.out).mono ?_; rintro r w2 ⟨rfl, hb2⟩; (try clear Xc0); (try clear Xc1); (try clear Xc2); (try clear Xc3); (try clear Xc4); (try clear Xc5); (try clear Xc6); (try clear Xc7); (try clear Xc8); (try clear Xc9); (try clear Xc10); (try clear Xc11); (try clear Xc12); (try clear Xc13); (try clear Xc14); (try clear Xc15); (try clear Xc16); have HB := Lib.hid (below2 (below2 HB.out (by first | exact Below.refl _ _ | exact bel_alloc _ _)) hb2); have X := Lib.hid (cells_kept X.out (below2 (by first | exact Below.refl _ _ | exact bel_alloc _ _) hb2) HBlt.out); have HBlt := Lib.hid (Nat.lt_of_lt_of_le HBlt.out (below2 (by first | exact Below.refl _ _ | exact bel_alloc _ _) hb2).size); have Xc0 := X.out 0 _ rfl; have Xc1 := X.out 1 _ rfl; have Xc2 := X.out 2 _ rfl; have Xc3 := X.out 3 _ rfl; have Xc4 := X.out 4 _ rfl; have Xc5 := X.out 5 _ rfl; have Xc6 := X.out 6 _ rfl; have Xc7 := X.out 7 _ rfl; have Xc8 := X.out 8 _ rfl; have Xc9 := X.out 9 _ rfl; have Xc10 := X.out 10 _ rfl; have Xc11 := X.out 11 _ rfl; have Xc12 := X.out 12 _ rfl; have Xc13 := X.out 13 _ rfl; have Xc14 := X.out 14 _ rfl; clear hb2) | (go_at_call_of 125 (l.op); refine (boundE_calls l A3 c3 _ TL.out (L.out.gr (Gr.of_below _ HB.out))).mono ?_; rintro r w2 ⟨rfl, hb2⟩; (try clear Xc0); (try clear Xc1); (try clear Xc2); (try clear Xc3); (try clear Xc4); (try clear Xc5); (try clear Xc6); (try clear Xc7); (try clear Xc8); (try clear Xc9); (try clear Xc10); (try clear Xc11); (try clear Xc12); (try clear Xc13); (try clear Xc14); (try clear Xc15); (try clear Xc16); have HB := Lib.hid (below2 (below2 HB.out (by first | exact Below.refl _ _ | exact bel_alloc _ _)) hb2); have X := Lib.hid (cells_kept X.out (below2 (by first | exact Below.refl _ _ | exact bel_alloc _ _) hb2) HBlt.out); have HBlt := Lib.hid (Nat.lt_of_lt_of_le HBlt.out (below2 (by first | exact Below.refl _ _ | exact bel_alloc _ _) hb2).size); have Xc0 := X.out 0 _ rfl; have Xc1 := X.out 1 _ rfl; have Xc2 := X.out 2 _ rfl; have Xc3 := X.out 3 _ rfl; have Xc4 := X.out 4 _ rfl; have Xc5 := X.out 5 _ rfl; have Xc6 := X.out 6 _ rfl; have Xc7 := X.out 7 _ rfl; have Xc8 := X.out 8 _ rfl; have Xc9 := X.out 9 _ rfl; have Xc10 := X.out 10 _ rfl; have Xc11 := X.out 11 _ rfl; have Xc12 := X.out 12 _ rfl; have Xc13 := X.out 13 _ rfl; have Xc14 := X.out 14 _ rfl; clear hb2) | (go_at_call_of 125 (h.op); refine (boundE_calls h A4 c4 _ TH.out (H.out.gr (Gr.of_below _ HB.out))).mono ?_; rintro r w2 ⟨rfl, hb2⟩; (try clear Xc0); (try clear Xc1); (try clear Xc2); (try clear Xc3); (try clear Xc4); (try clear Xc5); (try clear Xc6); (try clear Xc7); (try clear Xc8); (try clear Xc9); (try clear Xc10); (try clear Xc11); (try clear Xc12); (try clear Xc13); (try clear Xc14); (try clear Xc15); (try clear Xc16); have HB := Lib.hid (below2 (below2 HB.out (by first | exact Below.refl _ _ | exact bel_alloc _ _)) hb2); have X := Lib.hid (cells_kept X.out (below2 (by first | exact Below.refl _ _ | exact bel_alloc _ _) hb2) HBlt.out); have HBlt := Lib.hid (Nat.lt_of_lt_of_le HBlt.out (below2 (by first | exact Below.refl _ _ | exact bel_alloc _ _) hb2).size); have Xc0 := X.out 0 _ rfl; have Xc1 := X.out 1 _ rfl; have Xc2 := X.out 2 _ rfl; have Xc3 := X.out 3 _ rfl; have Xc4 := X.out 4 _ rfl; have Xc5 := X.out 5 _ rfl; have Xc6 := X.out 6 _ rfl; have Xc7 := X.out 7 _ rfl; have Xc8 := X.out 8 _ rfl; have Xc9 := X.out 9 _ rfl; have Xc10 := X.out 10 _ rfl; have Xc11 := X.out 11 _ rfl; have Xc12 := X.out 12 _ rfl; have Xc13 := X.out 13 _ rfl; have Xc14 := X.out 14 _ rfl; clear hb2) | fail)
    all_goals go_returns
    all_goals refine ⟨?_, HB.out⟩
    all_goals have hz := HZ.out
    all_goals subst hz
    all_goals (simp_all; try omega; try (by_cases hh : ne = 0 <;> simp [hh]); try (rw [Bool.eq_iff_iff]; simp; done))
end
end

/-! Statements alone: ifs and whiles. -/
section
set_option linter.unusedVariables false
set_option linter.unusedSimpArgs false
open Go.RowKit

theorem nat0_beq (n : Nat) : ((n : Int) == 0) = decide (n = 0) := by
  rcases Nat.eq_zero_or_pos n with h | h
  · subst h; rfl
  · have h2 : ¬ n = 0 := by omega
    have h1 : ((n : Int) == 0) = false := by rw [beq_eq_false_iff_ne]; omega
    rw [h1, decide_eq_false h2]
section
variable {d vo vy : Int} {n vt : List UInt8} {ix vk : List Ex} {l h : Ex} {nt ne nix c1 c2 c3 c4 c5 c6 : Nat} {A1 A2 A3 A4 A5 A6 : Option Addr} {w : World} {ic : List Value} {z an : Bool}
set_option maxRecDepth 20000 in
set_option maxHeartbeats 16000000 in
theorem stmtB_3 (I1 : RowKit.Hid (RdK (fun _ => True) w (.slice A1 nix c1) nix 4 ic)) (I2 : RowKit.Hid (ExsC (fun _ => True) w ix ic)) (Hix : RowKit.Hid (ix.length = nix)) (HA : RowKit.Hid ((ix.any fun e => decide (e.op = 0)) = an))
    (V : RowKit.Hid (ExC (fun _ => True) w (.mk vo vt vy vk) [.int .i64 vo, .string ⟨vt.toArray⟩, .int .i64 vy, .slice A2 vk.length c2])) (L : RowKit.Hid (ExC (fun _ => True) w l [.int .i64 l.op, .string ⟨l.text.toArray⟩, .int .i64 l.ty, .slice A3 l.kids.length c3]))
    (H : RowKit.Hid (ExC (fun _ => True) w h [.int .i64 h.op, .string ⟨h.text.toArray⟩, .int .i64 h.ty, .slice A4 h.kids.length c4])) (TN : RowKit.Hid (n.length ≤ maxLen)) (TL : RowKit.Hid l.tx) (TH : RowKit.Hid h.tx) (HZ : RowKit.Hid (z = ((!decide (vo = 0) && (noneB l && noneB h)) && n.isEmpty && decide ((nix : Int) = 0)))) :
    Calls Tryz.prog 81 #[.agg #[.int .i64 3, .string ⟨n.toArray⟩, .slice A1 nix c1, .int .i64 vo, .string ⟨vt.toArray⟩, .int .i64 vy, .slice A2 vk.length c2, .int .i64 l.op, .string ⟨l.text.toArray⟩, .int .i64 l.ty, .slice A3 l.kids.length c3, .int .i64 h.op, .string ⟨h.text.toArray⟩, .int .i64 h.ty, .slice A4 h.kids.length c4, .slice A5 nt c5, .slice A6 ne c6]] w fun r w' => r = .returned (.bool z) ∧ Below w.heap.size w w' := by
  by_cases v0 : vo = 0
  · subst v0
    go_enter Tryz.func81, Tryz.ntmps81
    go_upto_region 1 with fail
    refine wp_named (fun W hb hc hz => ?_)
    have HB := Lib.hid hb
    have X := Lib.hid hc
    have HBlt := Lib.hid (show w.heap.size < W.heap.size by omega)
    clear hb hc hz
    have Xc0 := X.out 0 _ rfl
    have Xc1 := X.out 1 _ rfl
    have Xc2 := X.out 2 _ rfl
    have Xc3 := X.out 3 _ rfl
    have Xc4 := X.out 4 _ rfl
    have Xc5 := X.out 5 _ rfl
    have Xc6 := X.out 6 _ rfl
    have Xc7 := X.out 7 _ rfl
    have Xc8 := X.out 8 _ rfl
    have Xc9 := X.out 9 _ rfl
    have Xc10 := X.out 10 _ rfl
    have Xc11 := X.out 11 _ rfl
    have Xc12 := X.out 12 _ rfl
    have Xc13 := X.out 13 _ rfl
    have Xc14 := X.out 14 _ rfl
    have Xc15 := X.out 15 _ rfl
    have Xc16 := X.out 16 _ rfl
    go_wp2_with (first | (go_at_call 122; refine (none_calls _ _ [l, h] _ _ (rows_two (L.out.gr (Gr.of_below _ HB.out)) (H.out.gr (Gr.of_below _ HB.out))).1 (rows_two (L.out.gr (Gr.of_below _ HB.out)) (H.out.gr (Gr.of_below _ HB.out))).2).mono ?_; rintro r w2 ⟨rfl, hb2⟩; (try clear Xc0); (try clear Xc1); (try clear Xc2); (try clear Xc3); (try clear Xc4); (try clear Xc5); (try clear Xc6); (try clear Xc7); (try clear Xc8); (try clear Xc9); (try clear Xc10); (try clear Xc11); (try clear Xc12); (try clear Xc13); (try clear Xc14); (try clear Xc15); (try clear Xc16); have HB := Lib.hid (below2 (below2 HB.out (by first | exact Below.refl _ _ | exact bel_alloc _ _)) hb2); have X := Lib.hid (cells_kept X.out (below2 (by first | exact Below.refl _ _ | exact bel_alloc _ _) hb2) HBlt.out); have HBlt := Lib.hid (Nat.lt_of_lt_of_le HBlt.out (below2 (by first | exact Below.refl _ _ | exact bel_alloc _ _) hb2).size); have Xc0 := X.out 0 _ rfl; have Xc1 := X.out 1 _ rfl; have Xc2 := X.out 2 _ rfl; have Xc16 := X.out 16 _ rfl; clear hb2) | fail)
    all_goals go_returns
    all_goals refine ⟨?_, HB.out⟩
    all_goals have hz := HZ.out
    all_goals subst hz
    all_goals first | (simp_all; done) | (simp_all; omega) | (simp_all; exact nat0_beq ne)
  · have v1 : (vo != 0) = true := by simp [v0]
    go_enter Tryz.func81, Tryz.ntmps81
    go_upto_region 1 with fail
    refine wp_named (fun W hb hc hz => ?_)
    have HB := Lib.hid hb
    have X := Lib.hid hc
    have HBlt := Lib.hid (show w.heap.size < W.heap.size by omega)
    clear hb hc hz
    have Xc0 := X.out 0 _ rfl
    have Xc1 := X.out 1 _ rfl
    have Xc2 := X.out 2 _ rfl
    have Xc3 := X.out 3 _ rfl
    have Xc4 := X.out 4 _ rfl
    have Xc5 := X.out 5 _ rfl
    have Xc6 := X.out 6 _ rfl
    have Xc7 := X.out 7 _ rfl
    have Xc8 := X.out 8 _ rfl
    have Xc9 := X.out 9 _ rfl
    have Xc10 := X.out 10 _ rfl
    have Xc11 := X.out 11 _ rfl
    have Xc12 := X.out 12 _ rfl
    have Xc13 := X.out 13 _ rfl
    have Xc14 := X.out 14 _ rfl
    have Xc15 := X.out 15 _ rfl
    have Xc16 := X.out 16 _ rfl
    go_wp2_with (first | (go_at_call 122; refine (none_calls _ _ [l, h] _ _ (rows_two (L.out.gr (Gr.of_below _ HB.out)) (H.out.gr (Gr.of_below _ HB.out))).1 (rows_two (L.out.gr (Gr.of_below _ HB.out)) (H.out.gr (Gr.of_below _ HB.out))).2).mono ?_; rintro r w2 ⟨rfl, hb2⟩; (try clear Xc0); (try clear Xc1); (try clear Xc2); (try clear Xc3); (try clear Xc4); (try clear Xc5); (try clear Xc6); (try clear Xc7); (try clear Xc8); (try clear Xc9); (try clear Xc10); (try clear Xc11); (try clear Xc12); (try clear Xc13); (try clear Xc14); (try clear Xc15); (try clear Xc16); have HB := Lib.hid (below2 (below2 HB.out (by first | exact Below.refl _ _ | exact bel_alloc _ _)) hb2); have X := Lib.hid (cells_kept X.out (below2 (by first | exact Below.refl _ _ | exact bel_alloc _ _) hb2) HBlt.out); have HBlt := Lib.hid (Nat.lt_of_lt_of_le HBlt.out (below2 (by first | exact Below.refl _ _ | exact bel_alloc _ _) hb2).size); have Xc0 := X.out 0 _ rfl; have Xc1 := X.out 1 _ rfl; have Xc2 := X.out 2 _ rfl; have Xc16 := X.out 16 _ rfl; clear hb2) | fail)
    all_goals go_returns
    all_goals refine ⟨?_, HB.out⟩
    all_goals have hz := HZ.out
    all_goals subst hz
    all_goals first | (simp_all; done) | (simp_all; omega) | (simp_all; exact nat0_beq ne)
set_option maxRecDepth 20000 in
set_option maxHeartbeats 16000000 in
theorem stmtB_4 (I1 : RowKit.Hid (RdK (fun _ => True) w (.slice A1 nix c1) nix 4 ic)) (I2 : RowKit.Hid (ExsC (fun _ => True) w ix ic)) (Hix : RowKit.Hid (ix.length = nix)) (HA : RowKit.Hid ((ix.any fun e => decide (e.op = 0)) = an))
    (V : RowKit.Hid (ExC (fun _ => True) w (.mk vo vt vy vk) [.int .i64 vo, .string ⟨vt.toArray⟩, .int .i64 vy, .slice A2 vk.length c2])) (L : RowKit.Hid (ExC (fun _ => True) w l [.int .i64 l.op, .string ⟨l.text.toArray⟩, .int .i64 l.ty, .slice A3 l.kids.length c3]))
    (H : RowKit.Hid (ExC (fun _ => True) w h [.int .i64 h.op, .string ⟨h.text.toArray⟩, .int .i64 h.ty, .slice A4 h.kids.length c4])) (TN : RowKit.Hid (n.length ≤ maxLen)) (TL : RowKit.Hid l.tx) (TH : RowKit.Hid h.tx) (HZ : RowKit.Hid (z = ((!decide (vo = 0) && (noneB l && noneB h)) && n.isEmpty && decide ((nix : Int) = 0) && decide ((ne : Int) = 0)))) :
    Calls Tryz.prog 81 #[.agg #[.int .i64 4, .string ⟨n.toArray⟩, .slice A1 nix c1, .int .i64 vo, .string ⟨vt.toArray⟩, .int .i64 vy, .slice A2 vk.length c2, .int .i64 l.op, .string ⟨l.text.toArray⟩, .int .i64 l.ty, .slice A3 l.kids.length c3, .int .i64 h.op, .string ⟨h.text.toArray⟩, .int .i64 h.ty, .slice A4 h.kids.length c4, .slice A5 nt c5, .slice A6 ne c6]] w fun r w' => r = .returned (.bool z) ∧ Below w.heap.size w w' := by
  by_cases v0 : vo = 0
  · subst v0
    go_enter Tryz.func81, Tryz.ntmps81
    go_upto_region 1 with fail
    refine wp_named (fun W hb hc hz => ?_)
    have HB := Lib.hid hb
    have X := Lib.hid hc
    have HBlt := Lib.hid (show w.heap.size < W.heap.size by omega)
    clear hb hc hz
    have Xc0 := X.out 0 _ rfl
    have Xc1 := X.out 1 _ rfl
    have Xc2 := X.out 2 _ rfl
    have Xc3 := X.out 3 _ rfl
    have Xc4 := X.out 4 _ rfl
    have Xc5 := X.out 5 _ rfl
    have Xc6 := X.out 6 _ rfl
    have Xc7 := X.out 7 _ rfl
    have Xc8 := X.out 8 _ rfl
    have Xc9 := X.out 9 _ rfl
    have Xc10 := X.out 10 _ rfl
    have Xc11 := X.out 11 _ rfl
    have Xc12 := X.out 12 _ rfl
    have Xc13 := X.out 13 _ rfl
    have Xc14 := X.out 14 _ rfl
    have Xc15 := X.out 15 _ rfl
    have Xc16 := X.out 16 _ rfl
    go_wp2_with (first | (go_at_call 122; refine (none_calls _ _ [l, h] _ _ (rows_two (L.out.gr (Gr.of_below _ HB.out)) (H.out.gr (Gr.of_below _ HB.out))).1 (rows_two (L.out.gr (Gr.of_below _ HB.out)) (H.out.gr (Gr.of_below _ HB.out))).2).mono ?_; rintro r w2 ⟨rfl, hb2⟩; (try clear Xc0); (try clear Xc1); (try clear Xc2); (try clear Xc3); (try clear Xc4); (try clear Xc5); (try clear Xc6); (try clear Xc7); (try clear Xc8); (try clear Xc9); (try clear Xc10); (try clear Xc11); (try clear Xc12); (try clear Xc13); (try clear Xc14); (try clear Xc15); (try clear Xc16); have HB := Lib.hid (below2 (below2 HB.out (by first | exact Below.refl _ _ | exact bel_alloc _ _)) hb2); have X := Lib.hid (cells_kept X.out (below2 (by first | exact Below.refl _ _ | exact bel_alloc _ _) hb2) HBlt.out); have HBlt := Lib.hid (Nat.lt_of_lt_of_le HBlt.out (below2 (by first | exact Below.refl _ _ | exact bel_alloc _ _) hb2).size); have Xc0 := X.out 0 _ rfl; have Xc1 := X.out 1 _ rfl; have Xc2 := X.out 2 _ rfl; have Xc16 := X.out 16 _ rfl; clear hb2) | fail)
    all_goals go_returns
    all_goals refine ⟨?_, HB.out⟩
    all_goals have hz := HZ.out
    all_goals subst hz
    all_goals first | (simp_all; done) | (simp_all; omega) | (simp_all; exact nat0_beq ne)
  · have v1 : (vo != 0) = true := by simp [v0]
    go_enter Tryz.func81, Tryz.ntmps81
    go_upto_region 1 with fail
    refine wp_named (fun W hb hc hz => ?_)
    have HB := Lib.hid hb
    have X := Lib.hid hc
    have HBlt := Lib.hid (show w.heap.size < W.heap.size by omega)
    clear hb hc hz
    have Xc0 := X.out 0 _ rfl
    have Xc1 := X.out 1 _ rfl
    have Xc2 := X.out 2 _ rfl
    have Xc3 := X.out 3 _ rfl
    have Xc4 := X.out 4 _ rfl
    have Xc5 := X.out 5 _ rfl
    have Xc6 := X.out 6 _ rfl
    have Xc7 := X.out 7 _ rfl
    have Xc8 := X.out 8 _ rfl
    have Xc9 := X.out 9 _ rfl
    have Xc10 := X.out 10 _ rfl
    have Xc11 := X.out 11 _ rfl
    have Xc12 := X.out 12 _ rfl
    have Xc13 := X.out 13 _ rfl
    have Xc14 := X.out 14 _ rfl
    have Xc15 := X.out 15 _ rfl
    have Xc16 := X.out 16 _ rfl
    go_wp2_with (first | (go_at_call 122; refine (none_calls _ _ [l, h] _ _ (rows_two (L.out.gr (Gr.of_below _ HB.out)) (H.out.gr (Gr.of_below _ HB.out))).1 (rows_two (L.out.gr (Gr.of_below _ HB.out)) (H.out.gr (Gr.of_below _ HB.out))).2).mono ?_; rintro r w2 ⟨rfl, hb2⟩; (try clear Xc0); (try clear Xc1); (try clear Xc2); (try clear Xc3); (try clear Xc4); (try clear Xc5); (try clear Xc6); (try clear Xc7); (try clear Xc8); (try clear Xc9); (try clear Xc10); (try clear Xc11); (try clear Xc12); (try clear Xc13); (try clear Xc14); (try clear Xc15); (try clear Xc16); have HB := Lib.hid (below2 (below2 HB.out (by first | exact Below.refl _ _ | exact bel_alloc _ _)) hb2); have X := Lib.hid (cells_kept X.out (below2 (by first | exact Below.refl _ _ | exact bel_alloc _ _) hb2) HBlt.out); have HBlt := Lib.hid (Nat.lt_of_lt_of_le HBlt.out (below2 (by first | exact Below.refl _ _ | exact bel_alloc _ _) hb2).size); have Xc0 := X.out 0 _ rfl; have Xc1 := X.out 1 _ rfl; have Xc2 := X.out 2 _ rfl; have Xc16 := X.out 16 _ rfl; clear hb2) | fail)
    all_goals go_returns
    all_goals refine ⟨?_, HB.out⟩
    all_goals have hz := HZ.out
    all_goals subst hz
    all_goals first | (simp_all; done) | (simp_all; omega) | (simp_all; exact nat0_beq ne)
end
end

/-! Statements alone: all of them. -/
section
set_option linter.unusedVariables false
set_option linter.unusedSimpArgs false
open Go.RowKit

theorem stmtB_calls (s : St) (cs : List Value) (w : World) (ht : s.tx) (hs : StC (fun _ => True) w s cs) :
    Calls Tryz.prog 81 #[.agg cs.toArray] w fun r w' => r = .returned (.bool (stB s)) ∧ Below w.heap.size w w' := by
  obtain ⟨A1, c1, ic, A2, c2, A3, c3, A4, c4, A5, c5, tc, A6, c6, ec, rfl, hi1, hi2, hv, hl, hh, ht1, ht2, he1, he2⟩ := hs.form
  obtain ⟨d, n, ix, ⟨vo, vt, vy, vk⟩, l, h, t, e⟩ := s
  simp only [St.tx] at ht
  obtain ⟨htn, _, htv, htl, hth, _, _⟩ := ht
  simp only [St.do_, St.name, St.index, St.value, St.low, St.high, St.then_, St.else_] at hi1 hi2 hv hl hh ⊢
  simp only [op_mk, text_mk, ty_mk, kids_mk] at hv ⊢
  have e0 : stB (.mk d n ix (.mk vo vt vy vk) l h t e) = (if d = 1 then (decide ((t.length : Int) = 0) && decide ((e.length : Int) = 0)) && (!decide (vo = 0) && (noneB l && noneB h)) && isName n && decide ((ix.length : Int) ≤ 1) && !(ix.any fun e => decide (e.op = 0))
    else if d = 2 then (decide ((t.length : Int) = 0) && decide ((e.length : Int) = 0)) && isName n && decide ((ix.length : Int) = 0) && noneB (.mk vo vt vy vk) && boundB l && boundB h
    else if d = 3 ∨ d = 4 then (!decide (vo = 0) && (noneB l && noneB h)) && n.isEmpty && decide ((ix.length : Int) = 0) && (decide (d = 3) || decide ((e.length : Int) = 0)) else false) := rfl
  rw [e0]
  by_cases d1 : d = 1
  · subst d1
    exact stmtB_1 (Lib.hid hi1) (Lib.hid hi2) (Lib.hid rfl) (Lib.hid rfl) (Lib.hid hv) (Lib.hid hl) (Lib.hid hh) (Lib.hid htn) (Lib.hid htl) (Lib.hid hth) (Lib.hid (by simp))
  by_cases d2 : d = 2
  · subst d2
    exact stmtB_2 (Lib.hid hi1) (Lib.hid hi2) (Lib.hid rfl) (Lib.hid rfl) (Lib.hid hv) (Lib.hid hl) (Lib.hid hh) (Lib.hid htn) (Lib.hid htl) (Lib.hid hth) (Lib.hid (by simp))
  by_cases d3 : d = 3
  · subst d3
    exact stmtB_3 (Lib.hid hi1) (Lib.hid hi2) (Lib.hid rfl) (Lib.hid rfl) (Lib.hid hv) (Lib.hid hl) (Lib.hid hh) (Lib.hid htn) (Lib.hid htl) (Lib.hid hth) (Lib.hid (by simp))
  by_cases d4 : d = 4
  · subst d4
    exact stmtB_4 (Lib.hid hi1) (Lib.hid hi2) (Lib.hid rfl) (Lib.hid rfl) (Lib.hid hv) (Lib.hid hl) (Lib.hid hh) (Lib.hid htn) (Lib.hid htl) (Lib.hid hth) (Lib.hid (by simp))
  exact stmtB_0 (Lib.hid hi1) (Lib.hid hi2) (Lib.hid rfl) (Lib.hid rfl) (Lib.hid hv) (Lib.hid hl) (Lib.hid hh) (Lib.hid htn) (Lib.hid htl) (Lib.hid hth) d1 d2 d3 d4 (Lib.hid (by simp [d1, d2, d3, d4]))
end
end Go.Proofs.YtokdcfehnhifhaaGreatDoor
