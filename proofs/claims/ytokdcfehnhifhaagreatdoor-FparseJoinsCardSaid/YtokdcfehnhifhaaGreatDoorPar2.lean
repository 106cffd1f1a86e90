/- The parser's expressions: the levels; all of them together. The parser's statements. A 'read' is parsed. strconv.Atoi at every text. What is deferred in 'whole'. -/
import Derived.Test.YtokdcfehnhifhaaGreatDoorPar1
import Derived.Test.YtokdcfehnhifhaaGreatDoorPur
import Derived.Deep.MidRow
import Derived.Lib.SmallJoins
import Derived.Recover
import Derived.Defers
import Derived.Laws.Pointers
namespace Go.Proofs.YtokdcfehnhifhaaGreatDoor
/-! The parser's expressions: the levels; all of them together. -/
section
set_option linter.unusedVariables false
set_option linter.unusedSimpArgs false
open Go.RowKit

theorem pRest_zero (level : Nat) (e : Ex) (s : PS) : pRest 0 level e s = none := by simp [pRest]
theorem pRest_in {f level : Nat} {e : Ex} {s : PS} {r : Res Ex} (h : pRest (f + 1) level e s = some r) (hi : isOf (opsAt level) s = true) :
    (pExpr f (level + 1)).bind (fun e2 => pRest f level (withE (opOf (hd s).text) [e, e2])) (drop1 s) = some r := by
  simp only [pRest, hi, if_true] at h
  rw [bind_pass] at h
  exact h
theorem pRest_out {f level : Nat} {e : Ex} {s : PS} {r : Res Ex} (h : pRest (f + 1) level e s = some r) (hi : isOf (opsAt level) s = false) : r = .ok e s := by
  simp only [pRest, hi, if_neg (show ¬ (false = true) by simp)] at h
  injection h with h
  exact h.symm
/-- A call that does not come back: what is behind it goes on under False (for the tactics that want one way on). -/
theorem dead_call {P : Program} {n : FuncId} {args : Array Value} {w : World} {R : Ending → World → Prop} (h : Calls P n args w R) (v : Value) (w' : World) (_ : False → R (.returned v) w') : Calls P n args w R := h
set_option maxHeartbeats 2000000 in
theorem expr_step (f : Nat) (ihE : ∀ g, g ≤ f → CallsE g) (ihU : CallsU f) : CallsE (f + 1) := by
  intro level pb s0 w r hl hs h
  have hlt := hs.lt
  have G0 := Lib.hid (Gr.refl (· ≠ pb) (w.alloc (.cells #[.int .i64 0, .string ⟨#[]⟩, .int .i64 0, .slice none 0 0] 64)))
  have S0 := Lib.hid hs
  clear hs
  unfold pExpr at h
  by_cases h5 : level = 5
  · subst h5
    rw [if_pos rfl] at h
    have H := Lib.hid h
    clear h
    go_enter Tryz.func105, Tryz.ntmps105
    go_wp2_with fail
    refine (operators_calls _).mono ?_
    rintro e w1 ⟨⟨B, rfl, hB1, hB2, hB3⟩, hb⟩
    have S1 := Lib.hid ((S0.out.below (bel_alloc _ _)).below hb)
    have G1 := Lib.hid (G0.out.trans (Gr.of_below _ hb))
    clear hb hB3
    go_wp2_with fail
    refine (ihU pb s0 _ r (S1.out.below (by go_grown)) H.out).mono ?_
    rintro e w2 he
    cases r with
    | bad n =>
      obtain ⟨rfl, hg⟩ := he
      have G2 := Lib.hid (G1.out.step (by go_grown) hg)
      clear hg
      go_wp2_with fail
      exact ⟨rfl, rfl, G2.out.pre⟩
    | ok a s2 =>
      obtain ⟨_, rfl, ⟨A, m, n, rfl, he⟩, hs, hg⟩ := he
      have S2 := Lib.hid hs
      have G2 := Lib.hid (G1.out.step (by go_grown) hg)
      have E2 := Lib.hid (he.mono (ok' := (w.heap.size < ·)) (fun b _ hb => by have := G1.out.size; simp at hb this ⊢; omega))
      clear hs hg he
      try clear c0 c1 c2 c3 f0 f1 f2 f3 hz
      obtain ⟨c0, c1, c2, c3, f0, f1, f2, f3, hz⟩ := res4 hlt G2.out
      go_wp2_with fail
      try simp only [Exit.inBlock, Exit.then]
      refine bodyPost_ret (by simp [results, Tryz.results105, go_sem, c0, c1, c2, c3, f0, f1, f2, f3]; try rfl) rfl ?_
      exact pend4 hlt G2.out S2.out a _ _ _ E2.out _ _ _ _
  · rw [if_neg h5] at h
    have t5 : ((level : Int) == 5) = false := by simp; omega
    have hlv : level < 5 := by omega
    obtain ⟨q2, hq, h⟩ := P.bind_some h
    have Hq2 := Lib.hid hq
    have H2 := Lib.hid h
    clear hq h
    go_enter Tryz.func105, Tryz.ntmps105
    go_wp2_with fail
    refine (operators_calls _).mono ?_
    rintro e w1 ⟨⟨B, rfl, hB1, hB2, hB3⟩, hb⟩
    have S1 := Lib.hid ((S0.out.below (bel_alloc _ _)).below hb)
    have G1 := Lib.hid (G0.out.trans (Gr.of_below _ hb))
    obtain ⟨A0, n0, c0', hO1, hO2⟩ := hB3 level hlv
    have HB := Lib.hid hB2
    have HO1 := Lib.hid hO1
    have HO2 := Lib.hid hO2
    clear hB2
    clear hO1
    clear hO2
    clear hb hB3
    go_wp2_with fail
    have K1 := Lib.hid (Gr.refl (· ≠ pb) w1)
    refine (ihE f (Nat.le_refl _) (level + 1) pb s0 _ q2 (by omega) (S1.out.below (by go_grown)) Hq2.out).mono ?_
    rintro e w2 he
    rcases H2.out with ⟨n, rfl, rfl⟩ | ⟨a2, s2, rfl, h⟩
    · obtain ⟨rfl, hg⟩ := he
      have G2 := Lib.hid (G1.out.step (by go_grown) hg)
      clear hg
      go_wp2_with fail
      exact ⟨rfl, rfl, G2.out.pre⟩
    obtain ⟨_, rfl, ⟨A2, m2, n2, rfl, he⟩, hs, hg⟩ := he
    have S2 := Lib.hid hs
    have G2 := Lib.hid (G1.out.step (by go_grown) hg)
    have K2 := Lib.hid (K1.out.step (by go_grown) hg)
    have E2 := Lib.hid (he.mono (ok' := (w.heap.size < ·)) (fun b _ hb => by have := G1.out.size; simp at hb this ⊢; omega))
    clear he
    clear hs hg
    try clear c0 c1 c2 c3 f0 f1 f2 f3 hz
    obtain ⟨c0, c1, c2, c3, f0, f1, f2, f3, hz⟩ := res4 hlt G2.out
    have heb : w.heap.size < w2.heap.size := hz
    have HH := Lib.hid h
    clear h
    go_wp2_with fail
    have W0 := Lib.hid (Gr.refl (fun b => b ≠ pb ∧ b ≠ w2.heap.size) (w2.alloc (.cells #[.int .i64 a2.op, .string ⟨a2.text.toArray⟩, .int .i64 a2.ty, .slice A2 m2 n2] 64)))
    go_loopg [] f (fun k W => ∃ (e : Ex) (s : PS) (A : Option Addr) (m c : Nat), k ≤ f ∧ pRest k level e s = some r ∧ PSt W pb s ∧
      Gr (fun b => b ≠ pb ∧ b ≠ w2.heap.size) (w2.alloc (.cells #[.int .i64 a2.op, .string ⟨a2.text.toArray⟩, .int .i64 a2.ty, .slice A2 m2 n2] 64)) W ∧
      Has W w2.heap.size #[.int .i64 e.op, .string ⟨e.text.toArray⟩, .int .i64 e.ty, .slice A m c] ∧
      ExC (fun b => w.heap.size < b ∧ b ≠ w2.heap.size) W e [.int .i64 e.op, strV e.text, .int .i64 e.ty, .slice A m c])
    case atStart =>
      refine ⟨a2, s2, A2, m2, n2, Nat.le_refl _, HH.out, S2.out.below (bel_alloc _ _), W0.out, Has.new _ _ _ rfl, ?_⟩
      exact (E2.out.mono (ok' := fun b => w.heap.size < b ∧ b ≠ w2.heap.size) (fun b hb hb' => ⟨hb', by omega⟩)).gr (Gr.of_below _ (bel_alloc _ _))
    case round =>
      obtain ⟨e, s, A, m, c, hkf, hk, hs, hg, hv, he⟩ := hrel
      have hr' := hg.size
      have hlr := hs.lt
      cases gk with
      | zero => rw [pRest_zero] at hk; cases hk
      | succ g =>
        have Kr := Lib.hid ((((K2.out.mono (ok' := fun b => b ≠ pb ∧ b ≠ w2.heap.size) fun _ _ h => h.1).alloc _).trans hg))
        have hsz1 := K2.out.size
        simp only [World.size_alloc] at hB1 hr'
        have gB : wr.cell? ⟨B, level, none⟩ = some (.slice A0 n0 c0') := by
          rw [Kr.out.cell (p := ⟨B, level, none⟩) HB.out ⟨by show B ≠ pb; omega, by show B ≠ w2.heap.size; have := HB.out; omega⟩]
          exact HO1.out
        have HR := Lib.hid ((HO2.out.gr (Kr.out.mono fun b hb h => ⟨by simp at h; omega, by simp at h; omega⟩)).rd)
        have hli : (level : Int) < 5 := by omega
        have hl0 : (0 : Int) ≤ level := by omega
        have Hs := Lib.hid hs
        have Hg := Lib.hid hg
        have Hv := Lib.hid hv
        have He := Lib.hid he
        have Hk := Lib.hid hk
        clear hs
        clear hg
        clear hv
        clear he
        clear hk
        go_wp2_with fail
        go_region_with (go_at_call 56; refine (is_calls pb s _ (Hs.out.below (Below.drew (Below.refl _ _))) _ (opsAt level) (HR.out.below (Below.drew (Below.refl _ _)))).mono ?_; rintro e' wx ⟨rfl, hbx⟩; have Hbx := Lib.hid hbx; clear hbx)
        have hbw : Below wr.heap.size wr wx := (Below.drew (Below.refl _ _)).trans Hbx.out
        have Sx := Lib.hid (Hs.out.below hbw)
        have Vx := Lib.hid (Hv.out.below hbw)
        have Qx := Lib.hid (Hg.out.trans (Gr.of_below _ hbw))
        have Fx := Lib.hid (He.out.gr (Gr.of_below _ hbw))
        have hszx := hbw.size
        have Gx := Lib.hid ((G2.out.alloc _).later Qx.out (fun b hb h => ⟨h, by have := G2.out.size; simp at hb this; omega⟩))
        clear hbw Hbx c0 c1 c2 c3 f0 f1 f2 f3
        generalize hi : isOf (opsAt level) s = b
        have HI := Lib.hid hi
        clear hi
        obtain ⟨c0, c1, c2, c3, f0, f1, f2, f3, hz'⟩ := res4 hlt Gx.out
        cases b with
        | false =>
          obtain rfl := pRest_out Hk.out HI.out
          obtain ⟨Vxc0, Vxc1, Vxc2, Vxc3, Vxf0, Vxf1, Vxf2, Vxf3, Vxz⟩ := Vx.out.c4
          go_wp2_with fail
          try simp only [Exit.inBlock, Exit.then]
          refine bodyPost_ret (by simp [results, Tryz.results105, go_sem, c0, c1, c2, c3, f0, f1, f2, f3]; try rfl) rfl ?_
          exact pend4 hlt Gx.out Sx.out e _ _ _ (Fx.out.mono fun _ _ h => h.1) _ _ _ _
        | true =>
          have h := pRest_in Hk.out HI.out
          obtain ⟨q5, hq, h⟩ := P.bind_some h
          have Hq5 := Lib.hid hq
          have H5 := Lib.hid h
          clear hq h
          have Zx := Lib.hid (Gr.refl (· ≠ pb) wx)
          go_wp2_with fail
          refine (pass_calls pb s _ (Sx.out.below (by go_grown)) (isOf_ne HI.out)).mono ?_
          rintro e w3 ⟨rfl, hs, hg⟩
          have G3 := Lib.hid (Gx.out.step (by go_grown) hg)
          have V3 := Lib.hid ((Vx.out.below (by go_grown)).gr hg (by omega))
          have Z3 := Lib.hid (Zx.out.step (by go_grown) hg)
          have S3 := Lib.hid hs
          clear hs hg
          try clear c0 c1 c2 c3 f0 f1 f2 f3 hz
          obtain ⟨c0, c1, c2, c3, f0, f1, f2, f3, hz⟩ := res4 hlt G3.out
          generalize (hd s).text = t at *
          generalize drop1 s = s3 at *
          obtain ⟨o, ho⟩ : ∃ o, o = opOf t := ⟨_, rfl⟩
          have H := H5.out
          rw [← ho] at H
          have Ho := Lib.hid ho
          have HH5 := Lib.hid H
          clear H ho H5
          go_wp2_with fail
          refine (opOf_calls t _).mono ?_
          rintro e' w4 ⟨rfl, hb⟩
          rw [← Ho.out]
          have S4 := Lib.hid (S3.out.below hb)
          have G4 := Lib.hid (G3.out.trans (Gr.of_below _ hb))
          have V4 := Lib.hid (V3.out.below hb)
          have Z4 := Lib.hid (Z3.out.trans (Gr.of_below _ hb))
          clear hb c0 c1 c2 c3 f0 f1 f2 f3 hz'
          have hlt4 := S4.out.lt
          obtain ⟨V4c0, V4c1, V4c2, V4c3, V4f0, V4f1, V4f2, V4f3, V4z⟩ := V4.out.c4
          go_wp2_with fail
          have hwr : IntKind.i64.wrap ((level : Int) + 1) = (level : Int) + 1 := IntWalk.i64_in ((level : Int) + 1) (by omega)
          rcases HH5.out with ⟨n, rfl, rfl⟩ | ⟨a5, s5, rfl, h⟩
          · have hC := ihE g (by omega) (level + 1) pb s3 w4.drew _ (by omega) (S4.out.below (Below.drew (Below.refl _ _))) Hq5.out
            rw [Int.natCast_add, Int.natCast_one] at hC
            have HC := Lib.hid hC
            clear hC
            go_region_with (first | (go_at_call 105; refine dead_call (HC.out.mono ?_) (.agg #[.int .i64 e.op, .string ⟨e.text.toArray⟩, .int .i64 e.ty, .slice A m c]) w4.drew ?_; rintro e' w5 ⟨rfl, hg5⟩; exact ⟨rfl, rfl, (G4.out.drew.trans hg5).pre⟩; intro hF; have HF := Lib.hid hF; clear hF) | (go_at_call 138; refine dead_call ((with_calls o _ _ _ _).mono ?_) (.agg #[.int .i64 e.op, .string ⟨e.text.toArray⟩, .int .i64 e.ty, .slice A m c]) w4.drew ?_; exact fun _ _ _ => HF.out.elim; intro hF; clear hF))
            all_goals exact HF.out.elim
          · have hC := ihE g (by omega) (level + 1) pb s3 w4.drew _ (by omega) (S4.out.below (Below.drew (Below.refl _ _))) Hq5.out
            rw [Int.natCast_add, Int.natCast_one] at hC
            have HC := Lib.hid hC
            clear hC
            go_region_with (first | (go_at_call 105; refine HC.out.mono ?_; rintro e' w5 ⟨_, rfl, ⟨A5, m5, n5, rfl, he5⟩, hs5, hg5⟩; have S5 := Lib.hid hs5; have E5 := Lib.hid he5; have V5 := Lib.hid (((V4.out.below (Below.drew (Below.refl _ _))).gr hg5 (by omega))); obtain ⟨Xc0, Xc1, Xc2, Xc3, Xf0, Xf1, Xf2, Xf3, Xz⟩ := V5.out.c4; have G5 := Lib.hid (G4.out.drew.trans hg5); have Z5 := Lib.hid (Z4.out.drew.trans hg5); clear hs5 he5 hg5) | (go_at_call 138; refine (with_calls o _ _ _ _).mono ?_; rintro e' w6 ⟨rfl, hb6⟩; have HB6 := Lib.hid hb6; have V6 := Lib.hid ((V5.out.below (bel_alloc _ _)).below hb6); obtain ⟨Wc0, Wc1, Wc2, Wc3, Wf0, Wf1, Wf2, Wf3, Wz⟩ := V6.out.c4; clear hb6))
            all_goals
              have S6 := Lib.hid ((S5.out.below (bel_alloc _ _)).below HB6.out)
              have Q6 := Lib.hid (((Qx.out.trans (Z5.out.mono fun _ _ h => h.1)).alloc _).trans (Gr.of_below _ HB6.out))
              have s4le := Z4.out.size
              have X1 := Lib.hid (Fx.out.gr (Z5.out.mono fun b _ h => by have := h.1; omega))
              have X2 := Lib.hid (E5.out.mono (ok' := fun b => w.heap.size < b ∧ b ≠ w2.heap.size) (fun b _ hb => by simp at hb; exact ⟨by omega, by omega⟩))
              have X := Lib.hid ((exC_two X1.out X2.out o [] 0 _ rfl ⟨by omega, by omega⟩).gr (Gr.of_below _ HB6.out))
              have hpe : w2.heap.size ≠ pb := by omega
              have HRR := Lib.hid h
              clear h
              go_wp2_with fail
              go_roundg g
              case rel =>
                refine ⟨withE o [e, a5], s5, _, _, _, by omega, HRR.out, S6.out.gr (((((Gr.refl (· ≤ pb) w6).setCell (Or.inr ?_) _).setCell (Or.inr ?_) _).setCell (Or.inr ?_) _).setCell (Or.inr ?_) _), (((Q6.out.setCell (Or.inr ?_) _).setCell (Or.inr ?_) _).setCell (Or.inr ?_) _).setCell (Or.inr ?_) _, ?_, X.out.gr (((((Gr.refl _ w6).setCell (Or.inr ?_) _).setCell (Or.inr ?_) _).setCell (Or.inr ?_) _).setCell (Or.inr ?_) _)⟩
                all_goals first | (simp; done) | (simp; omega) | (exact (((V6.out.set 0 _ (by simp)).set 1 _ (by simp)).set 2 _ (by simp)).set 3 _ (by simp))
              case measure => omega
theorem all_calls (f : Nat) : ∀ g, g ≤ f → CallsE g ∧ CallsU g ∧ CallsP g ∧ CallsW g := by
  have h0 : CallsE 0 ∧ CallsU 0 ∧ CallsP 0 ∧ CallsW 0 := by
    refine ⟨fun l pb s w r hl hs h => ?_, fun pb s w r hs h => ?_, fun pb s w r hs h => ?_, fun pb s w r hs h => ?_⟩
    · simp [pExpr] at h
    · simp [pUnary] at h
    · simp [pPrimary] at h
    · simp [pWithin] at h
  induction f with
  | zero =>
    intro g hg
    obtain rfl : g = 0 := by omega
    exact h0
  | succ f ih =>
    intro g hg
    rcases Nat.lt_or_ge g (f + 1) with hlt | hge
    · exact ih g (by omega)
    · obtain rfl : g = f + 1 := by omega
      have i := ih f (Nat.le_refl _)
      exact ⟨expr_step f (fun k hk => (ih k hk).1) i.2.1, unary_step f i.2.1 i.2.2.1, primary_step f i.1 i.2.2.2, within_step f i.1⟩
theorem expr_calls (f level pb : Nat) (s : PS) (w : World) (r : Res Ex) (hl : level ≤ 5) (hs : PSt w pb s) (h : pExpr f level s = some r) :
    Calls Tryz.prog 105 #[.pointer (some ⟨pb, 0, none⟩), .int .i64 level] w (PEnd w pb r (rdE w.heap.size)) := (all_calls f f (Nat.le_refl _)).1 level pb s w r hl hs h
end

/-! The parser's statements. -/
section
set_option linter.unusedVariables false
set_option linter.unusedSimpArgs false
open Go.RowKit

def zS : Array Value := #[.int .i64 0, .string ⟨#[]⟩, .slice none 0 0, .int .i64 0, .string ⟨#[]⟩, .int .i64 0, .slice none 0 0, .int .i64 0, .string ⟨#[]⟩, .int .i64 0, .slice none 0 0, .int .i64 0, .string ⟨#[]⟩, .int .i64 0, .slice none 0 0, .slice none 0 0, .slice none 0 0]
theorem Has.c17 {x0 x1 x2 x3 x4 x5 x6 x7 x8 x9 x10 x11 x12 x13 x14 x15 x16 : Value} {w : World} {b : Nat} (h : Has w b #[x0, x1, x2, x3, x4, x5, x6, x7, x8, x9, x10, x11, x12, x13, x14, x15, x16]) :
    w.cell? ⟨b, 0, none⟩ = some x0 ∧ w.cell? ⟨b, 1, none⟩ = some x1 ∧ w.cell? ⟨b, 2, none⟩ = some x2 ∧ w.cell? ⟨b, 3, none⟩ = some x3 ∧ w.cell? ⟨b, 4, none⟩ = some x4 ∧ w.cell? ⟨b, 5, none⟩ = some x5 ∧ w.cell? ⟨b, 6, none⟩ = some x6 ∧ w.cell? ⟨b, 7, none⟩ = some x7 ∧ w.cell? ⟨b, 8, none⟩ = some x8 ∧ w.cell? ⟨b, 9, none⟩ = some x9 ∧ w.cell? ⟨b, 10, none⟩ = some x10 ∧ w.cell? ⟨b, 11, none⟩ = some x11 ∧ w.cell? ⟨b, 12, none⟩ = some x12 ∧ w.cell? ⟨b, 13, none⟩ = some x13 ∧ w.cell? ⟨b, 14, none⟩ = some x14 ∧ w.cell? ⟨b, 15, none⟩ = some x15 ∧ w.cell? ⟨b, 16, none⟩ = some x16 ∧
    w.frozen? ⟨b, 0, none⟩ = false ∧ w.frozen? ⟨b, 1, none⟩ = false ∧ w.frozen? ⟨b, 2, none⟩ = false ∧ w.frozen? ⟨b, 3, none⟩ = false ∧ w.frozen? ⟨b, 4, none⟩ = false ∧ w.frozen? ⟨b, 5, none⟩ = false ∧ w.frozen? ⟨b, 6, none⟩ = false ∧ w.frozen? ⟨b, 7, none⟩ = false ∧ w.frozen? ⟨b, 8, none⟩ = false ∧ w.frozen? ⟨b, 9, none⟩ = false ∧ w.frozen? ⟨b, 10, none⟩ = false ∧ w.frozen? ⟨b, 11, none⟩ = false ∧ w.frozen? ⟨b, 12, none⟩ = false ∧ w.frozen? ⟨b, 13, none⟩ = false ∧ w.frozen? ⟨b, 14, none⟩ = false ∧ w.frozen? ⟨b, 15, none⟩ = false ∧ w.frozen? ⟨b, 16, none⟩ = false ∧ b < w.heap.size :=
  ⟨h.cell 0 _ rfl, h.cell 1 _ rfl, h.cell 2 _ rfl, h.cell 3 _ rfl, h.cell 4 _ rfl, h.cell 5 _ rfl, h.cell 6 _ rfl, h.cell 7 _ rfl, h.cell 8 _ rfl, h.cell 9 _ rfl, h.cell 10 _ rfl, h.cell 11 _ rfl, h.cell 12 _ rfl, h.cell 13 _ rfl, h.cell 14 _ rfl, h.cell 15 _ rfl, h.cell 16 _ rfl, h.frz 0 (by simp), h.frz 1 (by simp), h.frz 2 (by simp), h.frz 3 (by simp), h.frz 4 (by simp), h.frz 5 (by simp), h.frz 6 (by simp), h.frz 7 (by simp), h.frz 8 (by simp), h.frz 9 (by simp), h.frz 10 (by simp), h.frz 11 (by simp), h.frz 12 (by simp), h.frz 13 (by simp), h.frz 14 (by simp), h.frz 15 (by simp), h.frz 16 (by simp), h.lt⟩

/-- A statement's cells, written out. -/
def rdS (n : Nat) : St → Value → World → Prop := fun a v w' =>
  ∃ A1 n1 c1 A2 n2 c2 A3 n3 c3 A4 n4 c4 A5 n5 c5 A6 n6 c6,
    v = .agg #[.int .i64 a.do_, strV a.name, .slice A1 n1 c1, .int .i64 a.value.op, strV a.value.text, .int .i64 a.value.ty, .slice A2 n2 c2, .int .i64 a.low.op, strV a.low.text, .int .i64 a.low.ty, .slice A3 n3 c3, .int .i64 a.high.op, strV a.high.text, .int .i64 a.high.ty, .slice A4 n4 c4, .slice A5 n5 c5, .slice A6 n6 c6] ∧
    StC (n ≤ ·) w' a [.int .i64 a.do_, strV a.name, .slice A1 n1 c1, .int .i64 a.value.op, strV a.value.text, .int .i64 a.value.ty, .slice A2 n2 c2, .int .i64 a.low.op, strV a.low.text, .int .i64 a.low.ty, .slice A3 n3 c3, .int .i64 a.high.op, strV a.high.text, .int .i64 a.high.ty, .slice A4 n4 c4, .slice A5 n5 c5, .slice A6 n6 c6]
theorem stC_mk {ok : Nat → Prop} {w : World} (d : Int) (n : List UInt8) {ix : List Ex} {ic : List Value} {iv : Value} (h1 : RdK ok w iv ix.length 4 ic) (h2 : ExsC ok w ix ic) {v l h : Ex} {vc lc hc : List Value} (h3 : ExC ok w v vc) (h4 : ExC ok w l lc) (h5 : ExC ok w h hc)
    {t e : List St} {tv ev : Value} {tc ec : List Value} (h6 : RdK ok w tv t.length 17 tc) (h7 : StsC ok w t tc) (h8 : RdK ok w ev e.length 17 ec) (h9 : StsC ok w e ec) :
    StC ok w (.mk d n ix v l h t e) ([.int .i64 d, strV n, iv] ++ vc ++ lc ++ hc ++ [tv, ev]) := by
  simp only [StC]
  exact ⟨iv, ic, vc, lc, hc, tv, tc, ev, ec, rfl, h1, h2, h3, h4, h5, h6, h7, h8, h9⟩
theorem rdk0 (ok : Nat → Prop) (w : World) (size : Nat) {α : Type} : RdK ok w (.slice none 0 0) ([] : List α).length size [] := RdK.nil ok w none 0 size
theorem exs0 (ok : Nat → Prop) (w : World) : ExsC ok w [] [] := by simp [ExsC]
theorem sts0 (ok : Nat → Prop) (w : World) : StsC ok w [] [] := by simp [StsC]
theorem exC_no (ok : Nat → Prop) (w : World) : ExC ok w .no [.int .i64 0, strV [], .int .i64 0, .slice none 0 0] := exC_leaf ok w 0 [] 0 none 0
/-- The end: a statement was stored into the result's cells. -/
theorem pendS {w wk wf : World} {pb : Nat} {s : PS} {o : Obj} (hlt : pb < w.heap.size) (G : Gr (· ≠ pb) (w.alloc o) wk) (S : PSt wk pb s) (a : St) (v : Value) (E : rdS (w.heap.size + 1) a v wk) (hF : Gr (· ≠ w.heap.size) wk wf) :
    PEnd w pb (.ok a s) (rdS w.heap.size) (.returned v) wf := by
  obtain ⟨A1, n1, c1, A2, n2, c2, A3, n3, c3, A4, n4, c4, A5, n5, c5, A6, n6, c6, rfl, E⟩ := E
  refine ⟨_, rfl, ⟨A1, n1, c1, A2, n2, c2, A3, n3, c3, A4, n4, c4, A5, n5, c5, A6, n6, c6, rfl, ?_⟩, S.gr (hF.mono fun b _ h => by omega), G.pre.later hF fun b hb _ => by omega⟩
  exact StC.go (ok' := (w.heap.size ≤ ·)) (hF.mono fun b _ h => by omega) (fun b _ h => by omega) a _ E
def rdB (n : Nat) : List St → Value → World → Prop := fun l v w' => ∃ A m c cells, v = .slice A m c ∧ RdK (n ≤ ·) w' v l.length 17 cells ∧ StsC (n ≤ ·) w' l cells

/-! Whole variables, read and written. -/
theorem Has.range {w : World} {b : Nat} {cs : Array Value} (h : Has w b cs) : w.rangeAt b 0 cs.toList := fun j v hj => by
  rw [Nat.zero_add]; exact h.cell j v (by simpa using hj)
def repl (cs : List Value) (i : Nat) (new : List Value) : List Value := cs.take i ++ new ++ cs.drop (i + new.length)
theorem Has.puts {b : Nat} (new : List Value) : ∀ {w : World} {cs : List Value} (i : Nat), Has w b cs.toArray → i + new.length ≤ cs.length → Has (w.setCells b i new) b (repl cs i new).toArray ∧ Gr (· ≠ b) w (w.setCells b i new) ∧ (w.setCells b i new).heap.size = w.heap.size := by
  induction new with
  | nil => intro w cs i h _; simp only [repl, List.length_nil, Nat.add_zero, List.append_nil, List.take_append_drop, World.setCells]; exact ⟨h, Gr.refl _ _, by trivial⟩
  | cons v r ih =>
    intro w cs i h hle
    simp only [List.length_cons] at hle
    have h1 := h.set i v (by simp; omega)
    rw [List.setIfInBounds_toArray] at h1
    obtain ⟨h2, h3, h4⟩ := ih (i + 1) h1 (by simp; omega)
    simp only [World.setCells]
    refine ⟨?_, ((Gr.refl _ w).setCell (Or.inr (by simp)) v).trans h3, by rw [h4]; simp⟩
    have e : repl (cs.set i v) (i + 1) r = repl cs i (v :: r) := by
      unfold repl
      rw [List.take_set, List.drop_set_of_lt (by omega), List.length_cons, show i + 1 + r.length = i + (r.length + 1) by omega, List.take_succ_eq_append_getElem (by omega)]
      rw [List.set_append_right _ _ (by simp; omega)]
      simp [Nat.min_eq_left (show i ≤ cs.length by omega)]
    rwa [e] at h2
section
variable {P : Program} {ops : Array Oper} {rest : List Oper} {o : Oper} {a : Act} {w : World} {Q : Exit → Act → World → Prop}
theorem wpList_loadHas (hgd : o.guard = none) (ty : TypeId) (x : Operand) (ho : o.op = .load ty x) (b : Nat) (hx : a.eval x = .pointer (some ⟨b, 0, none⟩)) (cs : Array Value) (hh : Has w b cs) (d : TypeDesc)
    (hu : P.underlying ty = some d) (hd : d.isRow = true) (n : Nat) (hn : cs.size = n) (hi : (P.info? ty).map (·.size) = some n) (h : wpList P ops Q rest (a.put o.dst (.agg cs)) w) : wpList P ops Q (o :: rest) a w :=
  wpList_load_mid hgd ty x ho b 0 hx cs.toList d hh.range hu hd (by simpa [hn] using hi) (by simpa using h)
theorem wpList_storeHas (hgd : o.guard = none) (ty : TypeId) (x y : Operand) (ho : o.op = .store ty x y) (b i : Nat) (new : Array Value) (hx : a.eval x = .pointer (some ⟨b, i, none⟩)) (hy : a.eval y = .agg new) (cs : Array Value) (hh : Has w b cs)
    (cs' : Array Value) (he : repl cs.toList i new.toList = cs'.toList) (n m : Nat) (hn : new.size = n) (hm : cs.size = m) (hle : i + n ≤ m) (hi : (P.info? ty).map (·.size) = some n) (h1 : (new.toList.all fun u => u.oneCell') = true)
    (h : ∀ w', Has w' b cs' → Gr (· ≠ b) w w' → w'.heap.size = w.heap.size → wpList P ops Q rest (a.put o.dst undef) w') : wpList P ops Q (o :: rest) a w := by
  subst hn hm
  obtain ⟨p1, p2, p3⟩ := Has.puts (b := b) new.toList (w := w) (cs := cs.toList) i (by simpa using hh) (by simpa using hle)
  rw [he] at p1
  refine wpList_store_mid hgd ty x y ho b i new hx hy (fun j hj => ?_) hi (by rw [← Array.all_toList]; exact h1) (h _ (by simpa using p1) p2 p3)
  have hj' : i + j < cs.size := by omega
  exact ⟨by rw [hh.cell (i + j) _ (Array.getElem?_eq_getElem hj')]; rfl, hh.frz (i + j) hj'⟩
theorem results_has {fn : Func} {p : Tmp} {ty : TypeId} (h : fn.results = #[.cell p ty]) (tmps : Array Value) (w : World) (g : Nat) (cs : Array Value) (d : TypeDesc)
    (hp : tmps.getD p undef = .pointer (some ⟨g, 0, none⟩)) (hh : Has w g cs) (hu : P.underlying ty = some d) (hd : d.isRow = true) (n : Nat) (hn : cs.size = n) (hi : (P.info? ty).map (·.size) = some n) :
    (results fn tmps).run P w = .ok (.agg cs) w := by
  have hp' : tmps[p]?.getD undef = .pointer (some ⟨g, 0, none⟩) := by simpa using hp
  simp [results, h, hp', asAddr, run_loadVar_mid w g 0 ty cs.toList d hh.range hu hd (by simpa [hn] using hi)]
end
def CallsS (f : Nat) : Prop := ∀ (pb : Nat) (s : PS) (w : World) (r : Res St), PSt w pb s → pStmt f s = some r →
  Calls Tryz.prog 58 #[.pointer (some ⟨pb, 0, none⟩)] w (PEnd w pb r (rdS w.heap.size))
def CallsB (f : Nat) : Prop := ∀ (pb : Nat) (s : PS) (w : World) (r : Res (List St)), PSt w pb s → pBlock f s = some r →
  Calls Tryz.prog 104 #[.pointer (some ⟨pb, 0, none⟩)] w (PEnd w pb r (rdB w.heap.size))

theorem condition_calls (f pb : Nat) (s0 : PS) (w : World) (r : Res Ex) (hs : PSt w pb s0) (h : pCondition f s0 = some r) :
    Calls Tryz.prog 103 #[.pointer (some ⟨pb, 0, none⟩)] w (PEnd w pb r (rdE w.heap.size)) := by
  have hlt := hs.lt
  have G0 := Lib.hid (Gr.refl (· ≠ pb) (w.alloc (.cells #[.int .i64 0, .string ⟨#[]⟩, .int .i64 0, .slice none 0 0] 64)))
  have S0 := Lib.hid hs
  clear hs
  unfold pCondition at h
  obtain ⟨q1, hq, h⟩ := P.bind_some h
  have Hq1 := Lib.hid hq
  have H1 := Lib.hid h
  clear hq h
  go_enter Tryz.func103, Tryz.ntmps103
  go_wp2_with fail
  refine (must_calls pb s0 _ (S0.out.below (by go_grown)) _ [[40]] (rdk_t1 _ [40] _ (by simp) (by omega)) q1 Hq1.out).mono ?_
  rintro e w1 he
  rcases H1.out with ⟨n, rfl, rfl⟩ | ⟨a1, s1, rfl, h⟩
  · obtain ⟨rfl, hg⟩ := he
    have G1 := Lib.hid (G0.out.step (by go_grown) hg)
    clear hg
    go_wp2_with fail
    exact ⟨rfl, rfl, G1.out.pre⟩
  obtain ⟨_, rfl, rfl, hs, hg⟩ := he
  have S1 := Lib.hid hs
  have G1 := Lib.hid (G0.out.step (by go_grown) hg)
  clear hs hg
  try clear c0 c1 c2 c3 f0 f1 f2 f3 hz
  obtain ⟨c0, c1, c2, c3, f0, f1, f2, f3, hz⟩ := res4 hlt G1.out
  obtain ⟨q2, hq, h⟩ := P.bind_some h
  have Hq2 := Lib.hid hq
  have H2 := Lib.hid h
  clear hq h
  go_wp2_with fail
  refine (expr_calls f 0 pb s1 _ q2 (by omega) (S1.out.below (by go_grown)) Hq2.out).mono ?_
  rintro e w2 he
  rcases H2.out with ⟨n, rfl, rfl⟩ | ⟨a2, s2, rfl, h⟩
  · obtain ⟨rfl, hg⟩ := he
    have G2 := Lib.hid (G1.out.step (by go_grown) hg)
    clear hg
    go_wp2_with fail
    exact ⟨rfl, rfl, G2.out.pre⟩
  obtain ⟨_, rfl, ⟨A2, m2, n2, rfl, he⟩, hs, hg⟩ := he
  have S2 := Lib.hid hs
  have G2 := Lib.hid (G1.out.step (by go_grown) hg)
  have E2 := Lib.hid (he.mono (ok' := (w.heap.size < ·)) (fun b _ hb => by have := G1.out.size; simp at hb this ⊢; omega))
  clear he
  clear hs hg
  try clear c0 c1 c2 c3 f0 f1 f2 f3 hz
  obtain ⟨c0, c1, c2, c3, f0, f1, f2, f3, hz⟩ := res4 hlt G2.out
  obtain ⟨q3, hq, h⟩ := P.bind_some h
  have Hq3 := Lib.hid hq
  have H3 := Lib.hid h
  clear hq h
  have xlt : pb < w2.heap.size := by omega
  have x2 := Lib.hid (Has.new w2 #[.int .i64 a2.op, .string ⟨a2.text.toArray⟩, .int .i64 a2.ty, .slice A2 m2 n2] 64 rfl)
  go_wp2_with fail
  refine (must_calls pb s2 _ (S2.out.below (by go_grown)) _ [[41]] (rdk_t1 _ [41] _ (by simp) (by omega)) q3 Hq3.out).mono ?_
  rintro e w3 he
  rcases H3.out with ⟨n, rfl, rfl⟩ | ⟨a3, s3, rfl, h⟩
  · obtain ⟨rfl, hg⟩ := he
    have G3 := Lib.hid (G2.out.step (by go_grown) hg)
    clear hg
    go_wp2_with fail
    exact ⟨rfl, rfl, G3.out.pre⟩
  obtain ⟨_, rfl, rfl, hs, hg⟩ := he
  have S3 := Lib.hid hs
  have G3 := Lib.hid (G2.out.step (by go_grown) hg)
  have E2x3 := Lib.hid ((E2.out.gr (Gr.of_below _ (by go_grown))).gr (hg.mono fun b hb hb' => by omega))
  have x3 := Lib.hid ((x2.out.below (by go_grown)).gr hg (by omega))
  clear hs hg
  try clear c0 c1 c2 c3 f0 f1 f2 f3 hz
  obtain ⟨c0, c1, c2, c3, f0, f1, f2, f3, hz⟩ := res4 hlt G3.out
  injection h with h
  subst h
  obtain ⟨x3c0, x3c1, x3c2, x3c3, x3f0, x3f1, x3f2, x3f3, x3z⟩ := x3.out.c4
  go_wp2_with fail
  try simp only [Exit.inBlock, Exit.then]
  refine bodyPost_ret (by simp [results, Tryz.results103, go_sem, c0, c1, c2, c3, f0, f1, f2, f3]; try rfl) rfl ?_
  exact pend4 hlt G3.out S3.out a2 _ _ _ E2x3.out _ _ _ _

end

/-! A 'read' is parsed. -/
section
set_option linter.unusedVariables false
set_option linter.unusedSimpArgs false
open Go.RowKit

set_option maxHeartbeats 4000000 in
theorem stmt_read (f pb : Nat) (s0 : PS) (w : World) (r : Res St) (hs : PSt w pb s0) (hb : isOf [[114, 101, 97, 100]] s0 = true) (h : pStmt (f + 1) s0 = some r) :
    Calls Tryz.prog 58 #[.pointer (some ⟨pb, 0, none⟩)] w (PEnd w pb r (rdS w.heap.size)) := by
  have hlt := hs.lt
  have G0 := Lib.hid (Gr.refl (· ≠ pb) (w.alloc (.cells zS 66)))
  have R0 := Lib.hid (Has.new w zS 66 rfl)
  have S0 := Lib.hid hs
  simp only [zS] at G0 R0
  clear hs
  have HB0 := Lib.hid hb
  clear hb
  unfold pStmt at h
  rw [bind_eat] at h
  have B1 := Lib.hid h
  clear h
  go_enter Tryz.func58, Tryz.ntmps58
  go_wp2_with fail
  refine (eat_text pb s0 _ (S0.out.below (by go_grown)) [114, 101, 97, 100]).mono ?_
  rintro e w1 ⟨rfl, hs, hg⟩
  have h := B1.out
  generalize hbq : isOf [[114, 101, 97, 100]] s0 = b at h ⊢
  have Hb1 := Lib.hid hbq
  clear hbq
  generalize eatS [114, 101, 97, 100] s0 = s1 at h hs
  have S1 := Lib.hid hs
  have G1 := Lib.hid (G0.out.step (by go_grown) hg)
  have R1 := Lib.hid ((R0.out.below (by go_grown)).gr hg (by omega))
  clear hs hg
  try clear hz
  have hz : w.heap.size < w1.heap.size := by have := G1.out.size; simp at this; omega
  obtain rfl : b = true := Hb1.out.symm.trans HB0.out
  simp only [if_true] at h
  obtain ⟨q2, hq, h⟩ := P.bind_some h
  have Hq2 := Lib.hid hq
  have H2 := Lib.hid h
  clear hq h
  go_wp2_with fail
  refine (take_calls pb s1 _ (S1.out.below (by go_grown)) _ [1] (rd_k1 _ 1 _ (by simp)) (by decide) q2 Hq2.out).mono ?_
  rintro e w2 he
  rcases H2.out with ⟨n, rfl, rfl⟩ | ⟨a2, s2, rfl, h⟩
  · obtain ⟨rfl, hg⟩ := he
    have G2 := Lib.hid (G1.out.step (by go_grown) hg)
    clear hg
    go_wp2_with fail
    exact ⟨rfl, rfl, G2.out.pre⟩
  obtain ⟨_, rfl, rfl, hs, hg⟩ := he
  have S2 := Lib.hid hs
  have G2 := Lib.hid (G1.out.step (by go_grown) hg)
  have R2 := Lib.hid ((R1.out.below (by go_grown)).gr hg (by omega))
  clear hs hg
  try clear hz
  have hz : w.heap.size < w2.heap.size := by have := G2.out.size; simp at this; omega
  obtain ⟨q3, hq, h⟩ := P.bind_some h
  have Hq3 := Lib.hid hq
  have H3 := Lib.hid h
  clear hq h
  have hyl : w.heap.size < w2.heap.size := hz
  have Y2 := Lib.hid (Has.new w2 #[.int .i64 2, .string ⟨a2.toArray⟩, .slice none 0 0, .int .i64 0, .string ⟨#[]⟩, .int .i64 0, .slice none 0 0, .int .i64 0, .string ⟨#[]⟩, .int .i64 0, .slice none 0 0, .int .i64 0, .string ⟨#[]⟩, .int .i64 0, .slice none 0 0, .slice none 0 0, .slice none 0 0] 66 rfl)
  go_wp2_with fail
  refine (must_calls pb s2 _ (S2.out.below (by go_grown)) _ [[105, 110], [91]] (rdk_t2 _ [105, 110] [91] _ (by simp) (by omega)) q3 Hq3.out).mono ?_
  rintro e w3 he
  rcases H3.out with ⟨n, rfl, rfl⟩ | ⟨a3, s3, rfl, h⟩
  · obtain ⟨rfl, hg⟩ := he
    have G3 := Lib.hid (G2.out.step (by go_grown) hg)
    clear hg
    go_wp2_with fail
    exact ⟨rfl, rfl, G3.out.pre⟩
  obtain ⟨_, rfl, rfl, hs, hg⟩ := he
  have S3 := Lib.hid hs
  have G3 := Lib.hid (G2.out.step (by go_grown) hg)
  have R3 := Lib.hid ((R2.out.below (by go_grown)).gr hg (by omega))
  have Y3 := Lib.hid ((Y2.out.below (by go_grown)).gr hg (by omega))
  clear hs hg
  try clear hz
  have hz : w.heap.size < w3.heap.size := by have := G3.out.size; simp at this; omega
  obtain ⟨q4, hq, h⟩ := P.bind_some h
  have Hq4 := Lib.hid hq
  have H4 := Lib.hid h
  clear hq h
  go_wp2_with fail
  have hy3 := Y3.out.lt
  refine (bound_calls pb s3 _ (S3.out.below (by go_grown)) q4 Hq4.out).mono ?_
  rintro e w4 he
  rcases H4.out with ⟨n, rfl, rfl⟩ | ⟨a4, s4, rfl, h⟩
  · obtain ⟨rfl, hg⟩ := he
    have G4 := Lib.hid (G3.out.step (by go_grown) hg)
    clear hg
    go_wp2_with fail
    exact ⟨rfl, rfl, G4.out.pre⟩
  obtain ⟨_, rfl, ⟨A4, m4, n4, rfl, he⟩, hs, hg⟩ := he
  have S4 := Lib.hid hs
  have G4 := Lib.hid (G3.out.step (by go_grown) hg)
  have R4 := Lib.hid ((R3.out.below (by go_grown)).gr hg (by omega))
  have Y4 := Lib.hid ((Y3.out.below (by go_grown)).gr hg (by omega))
  have E4 := Lib.hid (he.mono (ok' := (w2.heap.size < ·)) (fun b _ hb => by have := G3.out.size; simp at hb this ⊢; omega))
  clear he
  clear hs hg
  try clear hz
  have hz : w.heap.size < w4.heap.size := by have := G4.out.size; simp at this; omega
  obtain ⟨q5, hq, h⟩ := P.bind_some h
  have Hq5 := Lib.hid hq
  have H5 := Lib.hid h
  clear hq h
  have hy4 := Y4.out.lt
  go_wp2_with (first | (refine wpList_storeHas rfl _ _ _ rfl w2.heap.size 7 _ rfl rfl _ Y4.out #[.int .i64 2, .string ⟨a2.toArray⟩, .slice none 0 0, .int .i64 0, .string ⟨#[]⟩, .int .i64 0, .slice none 0 0, .int .i64 a4.op, .string ⟨a4.text.toArray⟩, .int .i64 a4.ty, .slice A4 m4 n4, .int .i64 0, .string ⟨#[]⟩, .int .i64 0, .slice none 0 0, .slice none 0 0, .slice none 0 0] rfl 4 17 rfl rfl (by decide) (by kernel_rfl) rfl ?_; intro w4b hY hG hq; have hsz4b := Nat.le_of_eq hq.symm; clear hq; have Y4b := Lib.hid hY; have K4b := Lib.hid hG; clear hY hG))
  have G4b := Lib.hid (G4.out.later K4b.out (fun b hb h => by have hb : b < w.heap.size + 1 := (by simpa using hb); show b ≠ _; omega))
  have S4b := Lib.hid (S4.out.gr (K4b.out.mono fun b _ h => by show b ≠ _; have h : b ≤ pb := h; omega))
  have R4b := Lib.hid (R4.out.gr K4b.out (by show _ ≠ _; omega))
  have E4k4b := Lib.hid (E4.out.gr (K4b.out.mono fun b _ h => by show b ≠ _; have h : _ < b := h; omega))
  refine (must_calls pb s4 _ (S4b.out.below (by go_grown)) _ [[44]] (rdk_t1 _ [44] _ (by simp) (by omega)) q5 Hq5.out).mono ?_
  rintro e w5 he
  rcases H5.out with ⟨n, rfl, rfl⟩ | ⟨a5, s5, rfl, h⟩
  · obtain ⟨rfl, hg⟩ := he
    have G5 := Lib.hid (G4b.out.step (by go_grown) hg)
    clear hg
    go_wp2_with fail
    exact ⟨rfl, rfl, G5.out.pre⟩
  obtain ⟨_, rfl, rfl, hs, hg⟩ := he
  have S5 := Lib.hid hs
  have G5 := Lib.hid (G4b.out.step (by go_grown) hg)
  have R5 := Lib.hid ((R4b.out.below (by go_grown)).gr hg (by omega))
  have Y5 := Lib.hid ((Y4b.out.below (by go_grown)).gr hg (by omega))
  have E4k4bx5 := Lib.hid ((E4k4b.out.gr (Gr.of_below _ (by go_grown))).gr (hg.mono fun b hb hb' => by omega))
  clear hs hg
  try clear hz
  have hz : w.heap.size < w5.heap.size := by have := G5.out.size; simp at this; omega
  obtain ⟨q6, hq, h⟩ := P.bind_some h
  have Hq6 := Lib.hid hq
  have H6 := Lib.hid h
  clear hq h
  have hy5 := Y5.out.lt
  go_wp2_with fail
  refine (bound_calls pb s5 _ (S5.out.below (by go_grown)) q6 Hq6.out).mono ?_
  rintro e w6 he
  rcases H6.out with ⟨n, rfl, rfl⟩ | ⟨a6, s6, rfl, h⟩
  · obtain ⟨rfl, hg⟩ := he
    have G6 := Lib.hid (G5.out.step (by go_grown) hg)
    clear hg
    go_wp2_with fail
    exact ⟨rfl, rfl, G6.out.pre⟩
  obtain ⟨_, rfl, ⟨A6, m6, n6, rfl, he⟩, hs, hg⟩ := he
  have S6 := Lib.hid hs
  have G6 := Lib.hid (G5.out.step (by go_grown) hg)
  have R6 := Lib.hid ((R5.out.below (by go_grown)).gr hg (by omega))
  have Y6 := Lib.hid ((Y5.out.below (by go_grown)).gr hg (by omega))
  have E4k4bx5x6 := Lib.hid ((E4k4bx5.out.gr (Gr.of_below _ (by go_grown))).gr (hg.mono fun b hb hb' => by omega))
  have E6 := Lib.hid (he.mono (ok' := (w2.heap.size < ·)) (fun b _ hb => by have := G5.out.size; simp at hb this ⊢; omega))
  clear he
  clear hs hg
  try clear hz
  have hz : w.heap.size < w6.heap.size := by have := G6.out.size; simp at this; omega
  obtain ⟨q7, hq, h⟩ := P.bind_some h
  have Hq7 := Lib.hid hq
  have H7 := Lib.hid h
  clear hq h
  have hy6 := Y6.out.lt
  go_wp2_with (first | (refine wpList_storeHas rfl _ _ _ rfl w2.heap.size 11 _ rfl rfl _ Y6.out #[.int .i64 2, .string ⟨a2.toArray⟩, .slice none 0 0, .int .i64 0, .string ⟨#[]⟩, .int .i64 0, .slice none 0 0, .int .i64 a4.op, .string ⟨a4.text.toArray⟩, .int .i64 a4.ty, .slice A4 m4 n4, .int .i64 a6.op, .string ⟨a6.text.toArray⟩, .int .i64 a6.ty, .slice A6 m6 n6, .slice none 0 0, .slice none 0 0] rfl 4 17 rfl rfl (by decide) (by kernel_rfl) rfl ?_; intro w6b hY hG hq; have hsz6b := Nat.le_of_eq hq.symm; clear hq; have Y6b := Lib.hid hY; have K6b := Lib.hid hG; clear hY hG))
  have G6b := Lib.hid (G6.out.later K6b.out (fun b hb h => by have hb : b < w.heap.size + 1 := (by simpa using hb); show b ≠ _; omega))
  have S6b := Lib.hid (S6.out.gr (K6b.out.mono fun b _ h => by show b ≠ _; have h : b ≤ pb := h; omega))
  have R6b := Lib.hid (R6.out.gr K6b.out (by show _ ≠ _; omega))
  have E6k6b := Lib.hid (E6.out.gr (K6b.out.mono fun b _ h => by show b ≠ _; have h : _ < b := h; omega))
  have E4k4bx5x6k6b := Lib.hid (E4k4bx5x6.out.gr (K6b.out.mono fun b _ h => by show b ≠ _; have h : _ < b := h; omega))
  refine (must_calls pb s6 _ (S6b.out.below (by go_grown)) _ [[93], [59]] (rdk_t2 _ [93] [59] _ (by simp) (by omega)) q7 Hq7.out).mono ?_
  rintro e w7 he
  rcases H7.out with ⟨n, rfl, rfl⟩ | ⟨a7, s7, rfl, h⟩
  · obtain ⟨rfl, hg⟩ := he
    have G7 := Lib.hid (G6b.out.step (by go_grown) hg)
    clear hg
    go_wp2_with fail
    exact ⟨rfl, rfl, G7.out.pre⟩
  obtain ⟨_, rfl, rfl, hs, hg⟩ := he
  have S7 := Lib.hid hs
  have G7 := Lib.hid (G6b.out.step (by go_grown) hg)
  have R7 := Lib.hid ((R6b.out.below (by go_grown)).gr hg (by omega))
  have Y7 := Lib.hid ((Y6b.out.below (by go_grown)).gr hg (by omega))
  have E6k6bx7 := Lib.hid ((E6k6b.out.gr (Gr.of_below _ (by go_grown))).gr (hg.mono fun b hb hb' => by omega))
  have E4k4bx5x6k6bx7 := Lib.hid ((E4k4bx5x6k6b.out.gr (Gr.of_below _ (by go_grown))).gr (hg.mono fun b hb hb' => by omega))
  clear hs hg
  try clear hz
  have hz : w.heap.size < w7.heap.size := by have := G7.out.size; simp at this; omega
  injection h with h
  subst h
  have hb : ∀ {e : Ex} {cs : List Value}, ExC (w2.heap.size < ·) w7 e cs → ExC (w.heap.size + 1 ≤ ·) w7 e cs := fun h => h.mono fun b _ hb => by have hb : w2.heap.size < b := hb; show w.heap.size + 1 ≤ b; omega
  have HE := Lib.hid (show rdS (w.heap.size + 1) (.mk 2 a2 [] .no a4 a6 [] []) (.agg #[.int .i64 2, .string ⟨a2.toArray⟩, .slice none 0 0, .int .i64 0, .string ⟨#[]⟩, .int .i64 0, .slice none 0 0, .int .i64 a4.op, .string ⟨a4.text.toArray⟩, .int .i64 a4.ty, .slice A4 m4 n4, .int .i64 a6.op, .string ⟨a6.text.toArray⟩, .int .i64 a6.ty, .slice A6 m6 n6, .slice none 0 0, .slice none 0 0]) w7 from ⟨none, 0, 0, none, 0, 0, A4, m4, n4, A6, m6, n6, none, 0, 0, none, 0, 0, rfl, stC_mk 2 a2 (rdk0 _ _ _) (exs0 _ _) (exC_no _ _) (hb E4k4bx5x6k6bx7.out) (hb E6k6bx7.out) (rdk0 _ _ _) (sts0 _ _) (rdk0 _ _ _) (sts0 _ _)⟩)
  clear hb
  go_wp2_with (first | (refine wpList_loadHas rfl _ _ rfl w2.heap.size rfl _ Y7.out _ Tryz.underlying66 rfl 17 rfl (by kernel_rfl) ?_) | (refine wpList_storeHas rfl _ _ _ rfl w.heap.size 0 _ rfl rfl _ R7.out #[.int .i64 2, .string ⟨a2.toArray⟩, .slice none 0 0, .int .i64 0, .string ⟨#[]⟩, .int .i64 0, .slice none 0 0, .int .i64 a4.op, .string ⟨a4.text.toArray⟩, .int .i64 a4.ty, .slice A4 m4 n4, .int .i64 a6.op, .string ⟨a6.text.toArray⟩, .int .i64 a6.ty, .slice A6 m6 n6, .slice none 0 0, .slice none 0 0] rfl 17 17 rfl rfl (by decide) (by kernel_rfl) rfl ?_; intro wf hY hG hq; clear hq; have Rf := Lib.hid hY; have Kf := Lib.hid hG; clear hY hG))
  try simp only [Exit.inBlock, Exit.then]
  refine bodyPost_ret (results_has rfl _ _ w.heap.size _ _ rfl Rf.out Tryz.underlying66 rfl 17 rfl (by kernel_rfl)) rfl ?_
  refine pendS hlt G7.out S7.out _ _ HE.out Kf.out
end

/-! strconv.Atoi at every text. -/
section
set_option linter.unusedVariables false
set_option linter.unusedSimpArgs false
open Go.RowKit

theorem atoi_calls (t : List UInt8) (pb : Nat) (w : World) (hl : t.length ≤ 8192) (hg : Glob w pb) :
    Calls Tryz.prog 100 #[.string ⟨t.toArray⟩] w fun e w' => (∃ er, e = .returned (.tuple #[.int .i64 (atoiP t).1, er]) ∧ ((atoiP t).2 = false ∧ er = .nilIface ∨ (atoiP t).2 = true ∧ ∃ T N, er = .iface T (.pointer (some ⟨N, 0, none⟩)))) ∧ Below w.heap.size w w' := by
  obtain ⟨g1, g2, t1, p1, t2, p2, n1, n2, l1, l2, v1, v2⟩ := hg
  have hs : (⟨t.toArray⟩ : ByteArray).size ≤ 8192 := by simpa [ByteArray.size] using hl
  have hd : (⟨t.toArray⟩ : ByteArray).data.toList = t := by simp
  cases ha : Lib.atoiAll t with
  | ok v =>
    refine (Tryz.strconv_Atoi_ok ⟨t.toArray⟩ (by omega) v (by rw [hd]; exact ha) w).mono ?_
    rintro e w' ⟨rfl, hw⟩
    refine ⟨⟨_, by rw [show (atoiP t).1 = v by simp [atoiP, ha]], Or.inl ⟨by simp [atoiP, ha], rfl⟩⟩, ?_⟩
    rcases hw with rfl | ⟨x, rfl⟩
    · exact Below.refl _ _
    · exact Go.Joins.below_bytesWorld _ _ _ _ (Nat.le_refl _)
  | range =>
    refine (Tryz.strconv_Atoi_range_var ⟨t.toArray⟩ (by omega) (by rw [hd]; exact ha) t2 p2 w v2).mono ?_
    rintro e w' ⟨N, rfl, _, _, hb⟩
    refine ⟨⟨_, by rw [show (atoiP t).1 = Lib.atoiSat t by simp [atoiP, ha]], Or.inr ⟨by simp [atoiP, ha], _, N, rfl⟩⟩, hb⟩
  | _ =>
    refine (Tryz.strconv_Atoi_syntax_var ⟨t.toArray⟩ (by omega) (by rw [hd]; exact ha) t1 p1 w v1).mono ?_
    rintro e w' ⟨N, rfl, _, _, hb⟩
    exact ⟨⟨_, by rw [show (atoiP t).1 = 0 by simp [atoiP, ha]], Or.inr ⟨by simp [atoiP, ha], _, N, rfl⟩⟩, hb⟩
end

/-! What is deferred in 'whole'. -/
section
set_option linter.unusedVariables false
set_option linter.unusedSimpArgs false
open Go.RowKit

theorem catch_idle (a b c : Nat) (w : World) :
    CallsD Tryz.prog 55 #[.pointer (some ⟨a, 0, none⟩), .pointer (some ⟨b, 0, none⟩), .pointer (some ⟨c, 0, none⟩)] .returning w fun e u' w' => e = .returned (.tuple #[]) ∧ u' = .returning ∧ w' = w := by
  refine callsD_of_wpS Tryz.func55 rfl fun c₀ cs hu => ?_
  apply wpS_seq
  apply wpS_region
  simp [wpOpsS, go_sem, recoverD, hu, Tryz.ntmps55, Exit.thenS]
  refine wpS_of_wp ?_
  go_wp2_with fail
  cases c₀
  simp_all [bodyPostS, results, Tryz.results55]
set_option maxHeartbeats 3000000 in
theorem catch_fault (a b c : Nat) (n : Int) (w : World) (x0 x1 y z : Value) (a0 : w.cell? ⟨a, 0, none⟩ = some x0) (a1 : w.cell? ⟨a, 1, none⟩ = some x1) (b0 : w.cell? ⟨b, 0, none⟩ = some y) (c0 : w.cell? ⟨c, 0, none⟩ = some z)
    (fa0 : w.frozen? ⟨a, 0, none⟩ = false) (fa1 : w.frozen? ⟨a, 1, none⟩ = false) (fb0 : w.frozen? ⟨b, 0, none⟩ = false) (fc0 : w.frozen? ⟨c, 0, none⟩ = false) (hab : a < b) (hbc : b < c) (hcw : c < w.heap.size) :
    CallsD Tryz.prog 55 #[.pointer (some ⟨a, 0, none⟩), .pointer (some ⟨b, 0, none⟩), .pointer (some ⟨c, 0, none⟩)] (.panicking [{ v := .iface 99 (.agg #[.int .i64 n]), recovered := false }]) w fun e u' w' =>
      e = .returned (.tuple #[]) ∧ u' = .panicking [{ v := .iface 99 (.agg #[.int .i64 n]), recovered := true }] ∧
      w'.cell? ⟨a, 0, none⟩ = some (.slice none 0 0) ∧ w'.cell? ⟨a, 1, none⟩ = some (.slice none 0 0) ∧ w'.cell? ⟨b, 0, none⟩ = some (.int .i64 n) ∧ w'.cell? ⟨c, 0, none⟩ = some (.bool false) ∧ Gr (fun k => k ≠ a ∧ k ≠ b ∧ k ≠ c) w w' := by
  have haw : a < w.heap.size := by omega
  have hbw : b < w.heap.size := by omega
  have e1 : ¬ a = w.heap.size := by omega
  have e2 : ¬ b = w.heap.size := by omega
  have e3 : ¬ c = w.heap.size := by omega
  have n1 : ¬ a = b := by omega
  have n2 : ¬ b = a := by omega
  have n3 : ¬ a = c := by omega
  have n4 : ¬ c = a := by omega
  have n5 : ¬ b = c := by omega
  have n6 : ¬ c = b := by omega
  have hta : ∀ w : World, (Instr.typeAssert (.iface 99 (.agg #[.int .i64 n])) 20 99 true).run Tryz.prog w = .ok (.tuple #[.agg #[.int .i64 n], .bool true]) w := fun _ => by kernel_rfl
  refine callsD_of_wpS Tryz.func55 rfl fun c₀ cs hu => ?_
  apply wpS_seq
  apply wpS_region
  simp [wpOpsS, go_sem, recoverD, hu, Tryz.ntmps55, Exit.thenS]
  refine wpS_of_wp ?_
  go_wp2_with fail
  go_region
  all_goals (go_wp2_with fail)
  all_goals refine ⟨rfl, _, rfl, .tuple #[], by simp [results, Tryz.results55], rfl, rfl, ?_, ?_, ?_, ?_, ?_⟩
  all_goals first | (simp [go_sem, a0, a1, b0, c0, n1, n2, n3, n4, n5, n6, haw, hbw, hcw, e1, e2, e3]; done) | skip
  all_goals exact (((((((Gr.refl _ w).setCell (Or.inr (by simp)) _).setCell (Or.inr (by simp)) _).setCell (Or.inr (by simp)) _).setCell (Or.inr (by simp)) _).alloc _).drew)
end
end Go.Proofs.YtokdcfehnhifhaaGreatDoor
