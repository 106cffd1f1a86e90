/- The measure of expressions. The measure of expressions, walked. The measure of statements, in plain words. slices.Concat of two rows of expressions. -/
import Derived.Test.YtokdcfehnhifhaaGreatDoorChk2
import Derived.Test.YtokdcfehnhifhaaGreatDoorGrow
import Derived.Deep.AppendSrc
import Derived.Maps.AppendAt
namespace Go.Proofs.YtokdcfehnhifhaaGreatDoor
/-! The measure of expressions. -/
section
set_option linter.unusedVariables false
set_option linter.unusedSimpArgs false
open Go.RowKit

structure MS where
  points : Int
  exprs : Int
  deep : Int
  bad : Bool
def MS.much (m : MS) : Bool := m.bad || decide (256 < m.points) || decide (2048 < m.exprs) || decide (24 < m.deep)
def MSt (w : World) (b : Nat) (m : MS) : Prop := Has w b #[.int .i64 m.points, .int .i64 m.exprs, .int .i64 m.deep, .bool m.bad]
mutual
def mEx : Ex → Int → MS → MS
  | .mk o t y k, d, m => if (MS.mk m.points (m.exprs + 1) (max m.deep d) (m.bad || !aloneB o t y k.length)).much = true then ⟨m.points, m.exprs + 1, max m.deep d, m.bad || !aloneB o t y k.length⟩ else mExs k (d + 1) ⟨m.points, m.exprs + 1, max m.deep d, m.bad || !aloneB o t y k.length⟩
def mExs : List Ex → Int → MS → MS
  | [], _, m => m
  | e :: r, d, m => if (mEx e d m).much = true then mEx e d m else mExs r d (mEx e d m)
end
theorem not_much {m : MS} (h : m.much = false) : m.bad = false ∧ m.points ≤ 256 ∧ m.exprs ≤ 2048 ∧ m.deep ≤ 24 := by
  simp [MS.much] at h
  exact ⟨h.1.1.1, h.1.1.2, h.1.2, h.2⟩
mutual
theorem mEx_le : ∀ (e : Ex) (d : Int) (m : MS), 0 ≤ m.exprs → m.exprs ≤ 2048 → 0 ≤ (mEx e d m).exprs ∧ (mEx e d m).exprs ≤ 2049
  | .mk o t y k, d, m, h0, h => by
    unfold mEx
    split
    · exact ⟨by simp; omega, by simp; omega⟩
    · rename_i hm
      have h2 := (not_much (by simpa using hm)).2.2.1
      exact mExs_le k (d + 1) _ (by simp; omega) (by simpa using h2)
theorem mExs_le : ∀ (l : List Ex) (d : Int) (m : MS), 0 ≤ m.exprs → m.exprs ≤ 2048 → 0 ≤ (mExs l d m).exprs ∧ (mExs l d m).exprs ≤ 2049
  | [], d, m, h0, h => by unfold mExs; exact ⟨h0, by omega⟩
  | e :: r, d, m, h0, h => by
    unfold mExs
    have h1 := mEx_le e d m h0 h
    split
    · exact h1
    · rename_i hm
      exact mExs_le r d _ h1.1 (not_much (by simpa using hm)).2.2.1
end
theorem much_calls (m : MS) (b : Nat) (w : World) (hm : MSt w b m) :
    Calls Tryz.prog 42 #[.pointer (some ⟨b, 0, none⟩)] w fun e w' => e = .returned (.bool m.much) ∧ w' = w := by
  obtain ⟨c0, c1, c2, c3, f0, f1, f2, f3, hz⟩ := hm.c4
  clear f0 f1 f2 f3 hm
  obtain ⟨p, e, d, bad⟩ := m
  simp only at c0 c1 c2 c3
  cases bad with
  | true =>
    go_enter Tryz.func42, Tryz.ntmps42
    go_wp2
    all_goals go_returns
    all_goals exact ⟨by simp [MS.much], rfl⟩
  | false =>
    go_enter Tryz.func42, Tryz.ntmps42
    go_wp2
    all_goals go_returns
    all_goals refine ⟨?_, rfl⟩
    all_goals (simp_all [MS.much]; try omega)
end

/-! The measure of expressions, walked. -/
section
set_option linter.unusedVariables false
set_option linter.unusedSimpArgs false
open Go.RowKit

def MCalls (N : Nat) : Prop := ∀ (e : Ex), e.sz ≤ N → ∀ (d : Int) (m : MS) (mb : Nat) (A : Option Addr) (c : Nat) (w : World), MSt w mb m → 0 ≤ m.exprs → m.exprs ≤ 2048 → 0 ≤ d → d ≤ 1000 → e.tx →
  ExC (· ≠ mb) w e [.int .i64 e.op, .string ⟨e.text.toArray⟩, .int .i64 e.ty, .slice A e.kids.length c] →
  Calls Tryz.prog 83 #[.pointer (some ⟨mb, 0, none⟩), .agg #[.int .i64 e.op, .string ⟨e.text.toArray⟩, .int .i64 e.ty, .slice A e.kids.length c], .int .i64 d] w
    fun r w' => r = .returned (.tuple #[]) ∧ MSt w' mb (mEx e d m) ∧ Gr (· ≠ mb) w w'
set_option maxHeartbeats 4000000 in
theorem mEx_step (N : Nat) (ih : MCalls N) : MCalls (N + 1) := by
  rintro ⟨op, t, ty, kids⟩ hN d m mb A c w hm h0 h1 hd0 hd1 htx he
  simp only [Ex.op, Ex.text, Ex.ty, Ex.kids] at he ⊢
  have hlt := hm.lt
  have hal := alone_calls op ty t A kids.length c
  have Hal := Lib.hid fun W => hal W htx.text
  obtain ⟨A', c', kc, hl, hv, hx⟩ := he.form
  injection hl with _ hl; injection hl with _ hl; injection hl with _ hl; injection hl with hl _; injection hl with e1 _ e2
  subst e1 e2
  have M := Lib.hid hm
  have Hv := Lib.hid hv
  have Hx := Lib.hid hx
  have Tx := Lib.hid htx
  have HN := Lib.hid hN
  have hn := hv.le
  clear hal hm hv hx he htx hN
  obtain ⟨c0, c1, c2, c3, f0, f1, f2, f3, hz⟩ := M.out.c4
  have hw1 : wrap64 (m.exprs + 1) = m.exprs + 1 := by unfold wrap64; omega
  have e0 : mEx (.mk op t ty kids) d m = if (MS.mk m.points (m.exprs + 1) (max m.deep d) (m.bad || !aloneB op t ty kids.length)).much = true then ⟨m.points, m.exprs + 1, max m.deep d, m.bad || !aloneB op t ty kids.length⟩ else mExs kids (d + 1) ⟨m.points, m.exprs + 1, max m.deep d, m.bad || !aloneB op t ty kids.length⟩ := by rw [mEx]
  have E0 := Lib.hid e0
  clear e0
  simp only [Ex.text, Ex.ty, Ex.kids, Ex.op] at *
  have hne : ¬ mb = w.heap.size := by omega
  have hne' : ¬ w.heap.size = mb := by omega
  have B0 := Lib.hid (Has.new w #[.int .i64 op, .string ⟨t.toArray⟩, .int .i64 ty, .slice A kids.length c] 64 rfl)
  cases hb : m.bad with
  | true =>
    rw [hb] at c3
    have Hb := Lib.hid hb
    clear hb
    go_enter Tryz.func83, Tryz.ntmps83
    go_wp2_with fail
    have hM : MSt ((((w.setCell ⟨mb, 1, none⟩ (.int .i64 (m.exprs + 1))).setCell ⟨mb, 2, none⟩ (.int .i64 (max m.deep d))).setCell ⟨mb, 3, none⟩ (.bool true)).alloc (.cells #[.int .i64 op, .string ⟨t.toArray⟩, .int .i64 ty, .slice A kids.length c] 64)) mb ⟨m.points, m.exprs + 1, max m.deep d, true⟩ :=
      (((M.out.set 1 (.int .i64 (m.exprs + 1)) (by simp)).set 2 (.int .i64 (max m.deep d)) (by simp)).set 3 (.bool true) (by simp)).below (bel_alloc _ _)
    have hG : Gr (· ≠ mb) w ((((w.setCell ⟨mb, 1, none⟩ (.int .i64 (m.exprs + 1))).setCell ⟨mb, 2, none⟩ (.int .i64 (max m.deep d))).setCell ⟨mb, 3, none⟩ (.bool true)).alloc (.cells #[.int .i64 op, .string ⟨t.toArray⟩, .int .i64 ty, .slice A kids.length c] 64)) :=
      ((((Gr.refl _ w).setCell (Or.inr (by simp)) _).setCell (Or.inr (by simp)) _).setCell (Or.inr (by simp)) _).alloc _
    refine (much_calls _ mb _ hM).mono ?_
    rintro e w2 ⟨rfl, rfl⟩
    have HM := Lib.hid hM
    have HG := Lib.hid hG
    clear hM hG
    have hmu : (MS.mk m.points (m.exprs + 1) (max m.deep d) true).much = true := by simp [MS.much]
    rw [hmu]
    have Hmu := Lib.hid hmu
    clear hmu
    go_wp2_with fail
    go_returns
    refine ⟨rfl, ?_, HG.out⟩
    rw [E0.out, Hb.out]
    simp only [Bool.true_or]
    rw [if_pos Hmu.out]
    exact HM.out
  | false =>
    rw [hb] at c3
    have Hb := Lib.hid hb
    clear hb
    go_enter Tryz.func83, Tryz.ntmps83
    go_wp2_with fail
    have hM : MSt (((w.setCell ⟨mb, 1, none⟩ (.int .i64 (m.exprs + 1))).setCell ⟨mb, 2, none⟩ (.int .i64 (max m.deep d))).alloc (.cells #[.int .i64 op, .string ⟨t.toArray⟩, .int .i64 ty, .slice A kids.length c] 64)) mb ⟨m.points, m.exprs + 1, max m.deep d, m.bad⟩ :=
      ((M.out.set 1 (.int .i64 (m.exprs + 1)) (by simp)).set 2 (.int .i64 (max m.deep d)) (by simp)).below (bel_alloc _ _)
    have hG : Gr (· ≠ mb) w (((w.setCell ⟨mb, 1, none⟩ (.int .i64 (m.exprs + 1))).setCell ⟨mb, 2, none⟩ (.int .i64 (max m.deep d))).alloc (.cells #[.int .i64 op, .string ⟨t.toArray⟩, .int .i64 ty, .slice A kids.length c] 64)) :=
      (((Gr.refl _ w).setCell (Or.inr (by simp)) _).setCell (Or.inr (by simp)) _).alloc _
    have hB : Has (((w.setCell ⟨mb, 1, none⟩ (.int .i64 (m.exprs + 1))).setCell ⟨mb, 2, none⟩ (.int .i64 (max m.deep d))).alloc (.cells #[.int .i64 op, .string ⟨t.toArray⟩, .int .i64 ty, .slice A kids.length c] 64)) w.heap.size #[.int .i64 op, .string ⟨t.toArray⟩, .int .i64 ty, .slice A kids.length c] := Has.new _ _ _ (by simp)
    refine (Hal.out _).mono ?_
    rintro e w2 ⟨rfl, hb⟩
    have hM2 := Has.below hM hb
    rw [Hb.out] at hM2
    have M2 := Lib.hid (show MSt w2 mb ⟨m.points, m.exprs + 1, max m.deep d, false⟩ from hM2)
    have G2 := Lib.hid (hG.trans (Gr.of_below _ hb))
    have B2 := Lib.hid (hB.below hb)
    clear hM hG hB hb hM2 c0 c1 c2 c3 f0 f1 f2 f3
    generalize hal : aloneB op t ty kids.length = al at *
    obtain ⟨c0, c1, c2, c3, f0, f1, f2, f3, hz2⟩ := M2.out.c4
    go_wp2_with fail
    have hM : MSt (w2.setCell ⟨mb, 3, none⟩ (.bool (!al))) mb ⟨m.points, m.exprs + 1, max m.deep d, !al⟩ := M2.out.set 3 (.bool (!al)) (by simp)
    have hG := G2.out.setCell (p := ⟨mb, 3, none⟩) (Or.inr (by simp)) (.bool (!al))
    have hB := B2.out.off ⟨mb, 3, none⟩ (.bool (!al)) (by simpa using hne)
    clear c0 c1 c2 c3 f0 f1 f2 f3 hal
    generalize w2.setCell ⟨mb, 3, none⟩ (.bool (!al)) = W at *
    have M3 := Lib.hid hM
    have G3 := Lib.hid hG
    have B3 := Lib.hid hB
    clear hM hG hB
    have E := E0.out
    rw [Hb.out] at E
    simp only [Bool.false_or] at E
    have E1 := Lib.hid E
    clear E E0
    generalize hm1 : (MS.mk m.points (m.exprs + 1) (max m.deep d) (!al)) = m1 at *
    have hx1 : m1.exprs = m.exprs + 1 := by rw [← hm1]
    have hx2 : d ≤ m1.deep := by rw [← hm1]; show d ≤ max m.deep d; omega
    clear hm1
    refine (much_calls m1 mb _ M3.out).mono ?_
    rintro e w3 ⟨rfl, rfl⟩
    cases hmu : m1.much with
    | true =>
      have Hmu := Lib.hid hmu
      clear hmu
      go_wp2_with fail
      go_returns
      refine ⟨rfl, ?_, G3.out⟩
      rw [E1.out, if_pos Hmu.out]
      exact M3.out
    | false =>
      have hmx : m1.exprs ≤ 2048 := (not_much hmu).2.2.1
      have hd24 : d ≤ 24 := by have := (not_much hmu).2.2.2; omega
      have hE : mEx (.mk op t ty kids) d m = mExs kids (d + 1) m1 := by rw [E1.out, hmu]; rfl
      have E2 := Lib.hid hE
      clear hE E1 hmu
      obtain ⟨c0, c1, c2, c3, f0, f1, f2, f3, hz3⟩ := B3.out.c4
      have hwd : wrap64 (d + 1) = d + 1 := by unfold wrap64; omega
      go_wp2_with fail
      clear c0 c1 c2 c3 f0 f1 f2 f3 M2 G2 B2 Hb
      have Gz := Lib.hid (Gr.refl (· ≠ mb) w3)
      go_loopw [41] (fun k W => ∃ (q : Nat) (mq : MS), k = .int .i64 q ∧ q ≤ kids.length ∧ mEx (.mk op t ty kids) d m = mExs (kids.drop q) (d + 1) mq ∧ MSt W mb mq ∧ 0 ≤ mq.exprs ∧ mq.exprs ≤ 2048 ∧ Gr (· ≠ mb) w3 W) (fun k _ => kids.length - (intOf k).toNat)
      case atStart => exact ⟨0, m1, rfl, by omega, by rw [E2.out, List.drop_zero], M3.out, by omega, hmx, Gr.refl _ _⟩
      case round =>
        obtain ⟨q, mq, rfl, hq, he, hm, hq0, hq1, hg⟩ := hrel
        have Eq := Lib.hid he
        have Mq := Lib.hid hm
        have Gq := Lib.hid hg
        have Gw := Lib.hid (G3.out.trans hg)
        have hsz := hg.size
        clear he hm hg
        by_cases hlt2 : q < kids.length
        · obtain ⟨b, off, c', A1, m1', hsl, hle, hbl, ho, g0, g1, g2, g3, hx⟩ := (Hx.out.gr Gw.out).elem (Hv.out.gr Gw.out) q hlt2
          injection hsl with hA hn' hc'
          subst hA hc'
          have hd : kids.drop q = kids[q] :: kids.drop (q + 1) := List.drop_eq_getElem_cons hlt2
          have Hd := Lib.hid hd
          have hszx : kids[q].sz ≤ N := by
            have h1 := exsSz_get kids q hlt2
            have h2 := HN.out
            simp only [Ex.sz] at h2
            omega
          have htx := exsTx_get (show exsTx kids from Tx.out.kids) q hlt2
          have Tq := Lib.hid htx
          have Xq := Lib.hid hx
          have hlb := (Mq.out).lt
          clear hx htx hd hn' ho
          generalize hxx : kids[q] = x at *
          have Hxx := Lib.hid hxx
          clear hxx
          have hne1 : ¬ b = wr.heap.size := by omega
          have hne2 : ¬ mb = wr.heap.size := by omega
          go_wp2_with fail
          refine (ih x hszx (d + 1) mq mb A1 m1' _ (Has.below Mq.out (bel_alloc _ _)) hq0 hq1 (by omega) (by omega) Tq.out (Xq.out.gr (Gr.of_below _ (bel_alloc _ _)))).mono ?_
          rintro e w4 ⟨rfl, hm4, hg4⟩
          have M4 := Lib.hid hm4
          have G4 := Lib.hid ((Gq.out.alloc _).trans hg4)
          have hle4 := mEx_le x (d + 1) mq hq0 hq1
          clear hm4 hg4
          have hE : mEx (.mk op t ty kids) d m = if (mEx x (d + 1) mq).much = true then mEx x (d + 1) mq else mExs (kids.drop (q + 1)) (d + 1) (mEx x (d + 1) mq) := by rw [Eq.out, Hd.out, mExs]
          generalize mEx x (d + 1) mq = m4 at *
          have E4 := Lib.hid hE
          clear hE
          go_wp2_with fail
          refine (much_calls m4 mb _ M4.out).mono ?_
          rintro e w5 ⟨rfl, rfl⟩
          cases hmu : m4.much with
          | true =>
            have Hmu := Lib.hid hmu
            clear hmu
            go_wp2_with fail
            try simp only [Exit.inBlock, Exit.then]
            refine bodyPost_ret (results_none rfl _ _ _) rfl ?_
            refine ⟨rfl, ?_, G3.out.trans G4.out⟩
            rw [E4.out, if_pos Hmu.out]
            exact M4.out
          | false =>
            have hmx4 : m4.exprs ≤ 2048 := (not_much hmu).2.2.1
            have Hmu := Lib.hid hmu
            clear hmu
            go_wp2_with fail
            go_roundw
            case rel => exact ⟨q + 1, m4, by go_num, by omega, by rw [E4.out, Hmu.out]; rfl, M4.out, hle4.1, hmx4, G4.out⟩
            case measure => simp [intOf]; omega
        · obtain rfl : q = kids.length := by omega
          go_wp2_with fail
          try simp only [Exit.inBlock, Exit.then]
          first | go_end0 | refine bodyPost_ret (results_none rfl _ _ _) rfl ?_
          refine ⟨rfl, ?_, Gw.out⟩
          rw [Eq.out, List.drop_length, mExs]
          exact Mq.out
theorem mEx_all : ∀ N, MCalls N
  | 0 => by
    rintro ⟨op, t, ty, kids⟩ hN
    simp only [Ex.sz] at hN
    omega
  | N + 1 => mEx_step N (mEx_all N)
theorem mEx_calls (e : Ex) (d : Int) (m : MS) (mb : Nat) (A : Option Addr) (c : Nat) (w : World) (hm : MSt w mb m) (h0 : 0 ≤ m.exprs) (h1 : m.exprs ≤ 2048) (hd0 : 0 ≤ d) (hd1 : d ≤ 1000) (ht : e.tx)
    (he : ExC (· ≠ mb) w e [.int .i64 e.op, .string ⟨e.text.toArray⟩, .int .i64 e.ty, .slice A e.kids.length c]) :
    Calls Tryz.prog 83 #[.pointer (some ⟨mb, 0, none⟩), .agg #[.int .i64 e.op, .string ⟨e.text.toArray⟩, .int .i64 e.ty, .slice A e.kids.length c], .int .i64 d] w
      fun r w' => r = .returned (.tuple #[]) ∧ MSt w' mb (mEx e d m) ∧ Gr (· ≠ mb) w w' := mEx_all e.sz e (Nat.le_refl _) d m mb A c w hm h0 h1 hd0 hd1 ht he
end

/-! The measure of statements, in plain words. -/
section
set_option linter.unusedVariables false
set_option linter.unusedSimpArgs false
open Go.RowKit

/-- What statements hold: an expression is looked at, if it is one. -/
def mE1 (e : Ex) (m : MS) : MS := if e.op = 0 then m else mEx e 1 m
def mEs : List Ex → MS → MS
  | [], m => m
  | e :: r, m => if (mE1 e m).much = true then (mE1 e m) else mEs r (mE1 e m)
def deepen (b : Bool) (d : Int) (m : MS) : MS := if b = true then ⟨m.points, m.exprs, max m.deep d, m.bad⟩ else m
mutual
def mSt : St → Int → MS → MS
  | .mk dd n ix v l h t e, d, m =>
    if (MS.mk (m.points + 1) m.exprs m.deep (m.bad || !stB (.mk dd n ix v l h t e))).much = true then ⟨m.points + 1, m.exprs, m.deep, m.bad || !stB (.mk dd n ix v l h t e)⟩
    else if (mEs (ix ++ [v, l, h]) ⟨m.points + 1, m.exprs, m.deep, m.bad || !stB (.mk dd n ix v l h t e)⟩).much = true then mEs (ix ++ [v, l, h]) ⟨m.points + 1, m.exprs, m.deep, m.bad || !stB (.mk dd n ix v l h t e)⟩
    else mSts e (d + 1) (deepen (!e.isEmpty) (d + 1) (mSts t (d + 1) (deepen (!t.isEmpty) (d + 1) (mEs (ix ++ [v, l, h]) ⟨m.points + 1, m.exprs, m.deep, m.bad || !stB (.mk dd n ix v l h t e)⟩))))
def mSts : List St → Int → MS → MS
  | [], _, m => m
  | s :: r, d, m => if (mSt s d m).much = true then mSt s d m else mSts r d (mSt s d m)
end
def mBlk (l : List St) (d : Int) (m : MS) : MS := mSts l d (deepen (!l.isEmpty) d m)
mutual
theorem mEx_points : ∀ (e : Ex) (d : Int) (m : MS), (mEx e d m).points = m.points
  | .mk o t y k, d, m => by
    unfold mEx
    split
    · rfl
    · rw [mExs_points k]
theorem mExs_points : ∀ (l : List Ex) (d : Int) (m : MS), (mExs l d m).points = m.points
  | [], d, m => by unfold mExs; rfl
  | e :: r, d, m => by
    unfold mExs
    split
    · exact mEx_points e d m
    · rw [mExs_points r, mEx_points e]
end
theorem mEs_points : ∀ (l : List Ex) (m : MS), (mEs l m).points = m.points
  | [], m => rfl
  | e :: r, m => by
    have h1 : (mE1 e m).points = m.points := by unfold mE1; split; rfl; exact mEx_points _ _ _
    unfold mEs
    split
    · exact h1
    · rw [mEs_points r, h1]
theorem mEs_le : ∀ (l : List Ex) (m : MS), 0 ≤ m.exprs → m.exprs ≤ 2048 → 0 ≤ (mEs l m).exprs ∧ (mEs l m).exprs ≤ 2049
  | [], m, h0, h1 => ⟨h0, by unfold mEs; omega⟩
  | e :: r, m, h0, h1 => by
    have h2 : 0 ≤ (mE1 e m).exprs ∧ (mE1 e m).exprs ≤ 2049 := by
      unfold mE1
      split
      · exact ⟨h0, by omega⟩
      · exact mEx_le e 1 m h0 h1
    unfold mEs
    split
    · exact h2
    · rename_i hm
      exact mEs_le r _ h2.1 (not_much (by simpa using hm)).2.2.1
theorem deepen_points (b : Bool) (d : Int) (m : MS) : (deepen b d m).points = m.points ∧ (deepen b d m).exprs = m.exprs ∧ (deepen b d m).bad = m.bad := by unfold deepen; split <;> exact ⟨rfl, rfl, rfl⟩
/-- Past the limits one statement more is counted at most. -/
theorem mSts_past (l : List St) (d : Int) (m : MS) (hm : m.much = true) (h0 : 0 ≤ m.points) : (mSts l d m).points ≤ m.points + 1 ∧ m.points ≤ (mSts l d m).points ∧ (mSts l d m).exprs = m.exprs := by
  cases l with
  | nil => unfold mSts; exact ⟨by omega, Int.le_refl _, rfl⟩
  | cons s r =>
    obtain ⟨dd, n, ix, v, lo, h, t, e⟩ := s
    have hmu : (MS.mk (m.points + 1) m.exprs m.deep (m.bad || !stB (.mk dd n ix v lo h t e))).much = true := by
      simp only [MS.much, Bool.or_eq_true, decide_eq_true_eq] at hm ⊢
      rcases hm with ((hm | hm) | hm) | hm
      · exact Or.inl (Or.inl (Or.inl (Or.inl hm)))
      · exact Or.inl (Or.inl (Or.inr (by omega)))
      · exact Or.inl (Or.inr hm)
      · exact Or.inr hm
    have e1 : mSt (.mk dd n ix v lo h t e) d m = ⟨m.points + 1, m.exprs, m.deep, m.bad || !stB (.mk dd n ix v lo h t e)⟩ := by rw [mSt, if_pos hmu]
    unfold mSts
    rw [e1, if_pos hmu]
    exact ⟨Int.le_refl _, by simp; omega, rfl⟩
theorem deepen_much (d : Int) (m : MS) (hd : 24 < d) : (deepen true d m).much = true := by
  simp only [deepen, if_true, MS.much, Bool.or_eq_true, decide_eq_true_eq]
  right
  omega
theorem deepen_past (b : Bool) (d : Int) (m : MS) (hm : m.much = true) : (deepen b d m).much = true := by
  unfold deepen
  split
  · simp only [MS.much, Bool.or_eq_true, decide_eq_true_eq] at hm ⊢
    rcases hm with ((hm | hm) | hm) | hm
    · exact Or.inl (Or.inl (Or.inl hm))
    · exact Or.inl (Or.inl (Or.inr hm))
    · exact Or.inl (Or.inr hm)
    · exact Or.inr (by omega)
  · exact hm
/-- How many points are counted at most, at each depth; and expressions. -/
def Bnd (d : Int) (m : MS) : Prop := 0 ≤ m.points ∧ m.points ≤ 282 - d ∧ 0 ≤ m.exprs ∧ m.exprs ≤ 2049
mutual
theorem mSt_bnd : ∀ (s : St) (d : Int) (m : MS), 0 ≤ m.points → m.points ≤ 256 → 0 ≤ m.exprs → m.exprs ≤ 2048 → 0 ≤ d → d ≤ 24 → Bnd d (mSt s d m)
  | .mk dd n ix v l h t e, d, m, h0, h1, e0, e1, hd0, hd => by
    unfold mSt
    split
    · exact ⟨by simp; omega, by simp; omega, e0, by simp; omega⟩
    · rename_i hm1
      have k1 := not_much (by simpa using hm1)
      have p2 := mEs_points (ix ++ [v, l, h]) ⟨m.points + 1, m.exprs, m.deep, m.bad || !stB (.mk dd n ix v l h t e)⟩
      have q2 := mEs_le (ix ++ [v, l, h]) ⟨m.points + 1, m.exprs, m.deep, m.bad || !stB (.mk dd n ix v l h t e)⟩ e0 e1
      generalize mEs (ix ++ [v, l, h]) ⟨m.points + 1, m.exprs, m.deep, m.bad || !stB (.mk dd n ix v l h t e)⟩ = m2 at *
      simp only at p2
      have k1' : m.points + 1 ≤ 256 := k1.2.1
      split
      · exact ⟨by omega, by omega, q2.1, q2.2⟩
      · rename_i hm2
        have k2 := not_much (show m2.much = false by simpa using hm2)
        have b3 : Bnd (d + 1) (mSts t (d + 1) (deepen (!t.isEmpty) (d + 1) m2)) := mBlk_bnd t (d + 1) m2 (by omega) (by omega) q2.1 k2.2.2.1 (by omega) (by omega)
        generalize mSts t (d + 1) (deepen (!t.isEmpty) (d + 1) m2) = m3 at *
        cases hm3 : m3.much with
        | true =>
          have := mSts_past e (d + 1) (deepen (!e.isEmpty) (d + 1) m3) (deepen_past _ _ _ hm3) (by rw [(deepen_points _ _ _).1]; exact b3.1)
          rw [(deepen_points _ _ _).1, (deepen_points _ _ _).2.1] at this
          exact ⟨by have := b3.1; omega, by have := b3.2.1; omega, by rw [this.2.2]; exact b3.2.2.1, by rw [this.2.2]; exact b3.2.2.2⟩
        | false =>
          have k3 := not_much hm3
          have b4 : Bnd (d + 1) (mSts e (d + 1) (deepen (!e.isEmpty) (d + 1) m3)) := mBlk_bnd e (d + 1) m3 b3.1 k3.2.1 b3.2.2.1 k3.2.2.1 (by omega) (by omega)
          exact ⟨b4.1, by have := b4.2.1; omega, b4.2.2⟩
theorem mBlk_bnd : ∀ (l : List St) (d : Int) (m : MS), 0 ≤ m.points → m.points ≤ 256 → 0 ≤ m.exprs → m.exprs ≤ 2048 → 0 ≤ d → d ≤ 25 → Bnd d (mSts l d (deepen (!l.isEmpty) d m))
  | [], d, m, h0, h1, e0, e1, hd0, hd => by
    unfold mSts deepen
    exact ⟨h0, by simp; omega, e0, by simp; omega⟩
  | s :: r, d, m, h0, h1, e0, e1, hd0, hd => by
    by_cases h25 : d = 25
    · have := mSts_past (s :: r) d (deepen true d m) (deepen_much d m (by omega)) (by rw [(deepen_points _ _ _).1]; exact h0)
      rw [(deepen_points _ _ _).1, (deepen_points _ _ _).2.1] at this
      have e2 : (!(s :: r).isEmpty) = true := rfl
      rw [e2]
      exact ⟨by omega, by omega, by rw [this.2.2]; exact e0, by rw [this.2.2]; omega⟩
    · exact mSts_bnd (s :: r) d _ (by rw [(deepen_points _ _ _).1]; exact h0) (by rw [(deepen_points _ _ _).1]; exact h1) (by rw [(deepen_points _ _ _).2.1]; exact e0) (by rw [(deepen_points _ _ _).2.1]; exact e1) hd0 (by omega)
theorem mSts_bnd : ∀ (l : List St) (d : Int) (m : MS), 0 ≤ m.points → m.points ≤ 256 → 0 ≤ m.exprs → m.exprs ≤ 2048 → 0 ≤ d → d ≤ 24 → Bnd d (mSts l d m)
  | [], d, m, h0, h1, e0, e1, hd0, hd => by
    unfold mSts
    exact ⟨h0, by omega, e0, by omega⟩
  | s :: r, d, m, h0, h1, e0, e1, hd0, hd => by
    have b := mSt_bnd s d m h0 h1 e0 e1 hd0 hd
    unfold mSts
    split
    · exact b
    · rename_i hm
      have k := not_much (by simpa using hm)
      exact mSts_bnd r d _ b.1 k.2.1 b.2.2.1 k.2.2.1 hd0 hd
end
mutual
theorem mEx_deep : ∀ (e : Ex) (d : Int) (m : MS), m.deep ≤ (mEx e d m).deep
  | .mk o t y k, d, m => by
    unfold mEx
    split
    · simp; omega
    · have := mExs_deep k (d + 1) ⟨m.points, m.exprs + 1, max m.deep d, m.bad || !aloneB o t y k.length⟩
      simp only at this
      omega
theorem mExs_deep : ∀ (l : List Ex) (d : Int) (m : MS), m.deep ≤ (mExs l d m).deep
  | [], d, m => by unfold mExs; exact Int.le_refl _
  | e :: r, d, m => by
    have h1 := mEx_deep e d m
    unfold mExs
    split
    · exact h1
    · exact Int.le_trans h1 (mExs_deep r d _)
end
theorem mEs_deep : ∀ (l : List Ex) (m : MS), m.deep ≤ (mEs l m).deep
  | [], m => Int.le_refl _
  | e :: r, m => by
    have h1 : m.deep ≤ (mE1 e m).deep := by unfold mE1; split; exact Int.le_refl _; exact mEx_deep _ _ _
    unfold mEs
    split
    · exact h1
    · exact Int.le_trans h1 (mEs_deep r _)
theorem deepen_deep (b : Bool) (d : Int) (m : MS) : m.deep ≤ (deepen b d m).deep := by unfold deepen; split; simp; omega; exact Int.le_refl _
mutual
theorem mSt_deep : ∀ (s : St) (d : Int) (m : MS), m.deep ≤ (mSt s d m).deep
  | .mk dd n ix v l h t e, d, m => by
    unfold mSt
    split
    · exact Int.le_refl _
    · have h2 := mEs_deep (ix ++ [v, l, h]) ⟨m.points + 1, m.exprs, m.deep, m.bad || !stB (.mk dd n ix v l h t e)⟩
      simp only at h2
      split
      · exact h2
      · exact Int.le_trans h2 (Int.le_trans (deepen_deep _ _ _) (Int.le_trans (mSts_deep t _ _) (Int.le_trans (deepen_deep _ _ _) (mSts_deep e _ _))))
theorem mSts_deep : ∀ (l : List St) (d : Int) (m : MS), m.deep ≤ (mSts l d m).deep
  | [], d, m => by unfold mSts; exact Int.le_refl _
  | s :: r, d, m => by
    have h1 := mSt_deep s d m
    unfold mSts
    split
    · exact h1
    · exact Int.le_trans h1 (mSts_deep r d _)
end
end

/-! slices.Concat of two rows of expressions. -/
section
set_option linter.unusedVariables false
set_option linter.unusedSimpArgs false
open Go.RowKit

theorem ExsC.one {ok : Nat → Prop} {w : World} : ∀ {l : List Ex} {cs : List Value}, ExsC ok w l cs → ∀ u ∈ cs, u.oneCell' = true
  | [], cs, h, u, hu => by simp only [ExsC] at h; simp [h] at hu
  | e :: r, cs, h, u, hu => by
    simp only [ExsC] at h
    obtain ⟨a, b, rfl, h1, h2⟩ := h
    rcases List.mem_append.1 hu with h | h
    · obtain ⟨A, c, kc, rfl, _, _⟩ := h1.form
      simp at h
      rcases h with rfl | rfl | rfl | rfl <;> rfl
    · exact ExsC.one h2 u h
theorem ExsC.append {ok : Nat → Prop} {w : World} : ∀ {l l2 : List Ex} {cs c2 : List Value}, ExsC ok w l cs → ExsC ok w l2 c2 → ExsC ok w (l ++ l2) (cs ++ c2)
  | [], l2, cs, c2, h, h2 => by simp only [ExsC] at h; subst h; simpa using h2
  | e :: r, l2, cs, c2, h, h2 => by
    simp only [ExsC] at h
    obtain ⟨a, b, rfl, h1, h3⟩ := h
    simp only [List.cons_append, ExsC]
    exact ⟨a, b ++ c2, by simp, h1, ExsC.append h3 h2⟩
/-- A row is appended to a row of one's own. -/
theorem wpList_append_rd {ok : Nat → Prop} {P : Program} {W : World} {ops : Array Oper} {rest : List Oper} {o : Oper} {a : Act} {Q : Exit → Act → World → Prop} (hgd : o.guard = none) (s x : Operand) (t : TypeId)
    (ho : o.op = .call { callee := .builtin .append, args := #[s, x], argTypes := #[t, t] })
    (base : Nat) (e : TypeId) (i : TypeInfo) (z : Value) (size bytes : Nat) (ht : P.underlying t = some (.slice e)) (hi : P.info? e = some i) (hz : i.zero = some z)
    (hsize : i.size = size) (hby : i.bytes = bytes) (hzs : z.cells.size = size) (hsz : 0 < size)
    (g n cap : Nat) (xs : List Value) (hs : a.eval s = .slice (some ⟨g, 0, none⟩) n cap) (hown : W.ownsRow base e size (.slice (some ⟨g, 0, none⟩) n cap) n xs)
    (v : Value) (m : Nat) (cs : List Value) (hx : a.eval x = v) (hv : RdK ok W v m size cs) (h1 : ∀ u ∈ cs, u.oneCell' = true)
    (h63 : n + m ≤ 1048576) (hbytes : bytes ≤ 134217728) (hbase : base ≤ W.heap.size)
    (h : ∀ g' cap' w', w'.ownsRow base e size (.slice (some ⟨g', 0, none⟩) (n + m) cap') (n + m) (xs ++ cs) → W.grownBy w' (some g) → (g' = g ∨ g' = W.heap.size) → wpList P ops Q rest (a.put o.dst (.slice (some ⟨g', 0, none⟩) (n + m) cap')) w') : wpList P ops Q (o :: rest) a W := by
  have hmul : (n + m) * bytes ≤ 1048576 * 134217728 := Nat.mul_le_mul h63 hbytes
  have hrun : ∃ g' cap' w', (Builtin.append_ #[t, t] o.type #[.slice (some ⟨g, 0, none⟩) n cap, v]).run P W = .ok (.slice (some ⟨g', 0, none⟩) (n + m) cap') w' ∧ w'.ownsRow base e size (.slice (some ⟨g', 0, none⟩) (n + m) cap') (n + m) (xs ++ cs) ∧ W.grownBy w' (some g) ∧ (g' = g ∨ g' = W.heap.size) := by
    have key : ∀ (A : Addr) (c : Nat), v = .slice (some A) m c → (∀ j u, cs[j]? = some u → W.cell? (A.add j) = some u) → ∃ g' cap' w', (Builtin.append_ #[t, t] o.type #[.slice (some ⟨g, 0, none⟩) n cap, v]).run P W = .ok (.slice (some ⟨g', 0, none⟩) (n + m) cap') w' ∧ w'.ownsRow base e size (.slice (some ⟨g', 0, none⟩) (n + m) cap') (n + m) (xs ++ cs) ∧ W.grownBy w' (some g) ∧ (g' = g ∨ g' = W.heap.size) := by
      rintro A c rfl hnews
      obtain ⟨v', w', hr, ho', hg, hnil, hat⟩ := run_append_own_at (P := P) W base t o.type e i z size bytes ht hi hz hsize hby hzs hsz _ n xs hown A m c cs hv.1 hnews h1 (by unfold maxLen; omega) (by omega) hbase
      rcases ho'.2 with ⟨h0, _⟩ | ⟨g', cap', cur, rfl, _⟩
      · have := (hnil.1 h0).1
        cases this
      · refine ⟨g', cap', w', hr, ho', hg, ?_⟩
        rcases hat with h | h
        · left; simpa [Value.ownBlock] using h
        · right; simpa [Value.ownBlock] using h
    rcases hv.2.2 with ⟨rfl, A, c, rfl⟩ | ⟨b, off, c, rfl, _, _, _, hc⟩
    · have hcs : cs = [] := List.eq_nil_of_length_eq_zero (by simpa using hv.1)
      subst hcs
      cases A with
      | some A => exact key A c rfl (by simp)
      | none =>
        obtain ⟨h0, _⟩ | ⟨g', cap', cur, hve, hb, hh, hle, _⟩ := hown.2
        · cases h0
        · injection hve with e1 _ e2
          injection e1 with e1
          injection e1 with e1
          subst e1 e2
          have hr := run_append_room_src (P := P) (w := W) t t o.type e i ht hi g 0 n cap (.slice none 0 c) 0 [] (Src.ofNil W ht c) (by omega) (by simp) (by simp)
          refine ⟨g, cap, W, ?_, by simpa using hown, ⟨rfl, rfl, rfl, Nat.le_refl _, fun _ _ _ => rfl⟩, Or.inl rfl⟩
          simpa [World.setCells] using hr
    · exact key ⟨b, off, none⟩ c rfl fun j u hj => by rw [add_mk]; exact hc j u hj
  obtain ⟨g', cap', w', hr, h1', h2', h3'⟩ := hrun
  refine wpList_plain hgd fun K hK => ?_
  unfold Oper.wp execOp
  simp only [ho, resolve, invoke, builtin, Sem.run_bind, Sem.run_pure, Result.andThen_ok, List.map_toArray, List.map_cons, List.map_nil, hs, hx, hr]
  exact hK _ _ (h g' cap' w' h1' h2' h3')
theorem below_grown {w W W' : World} {row : Option Nat} (h : Below w.heap.size w W) (hg : W.grownBy W' row) (hr : ∀ k, row = some k → w.heap.size ≤ k) : Below w.heap.size w W' :=
  ((Gr.of_below (fun _ => True) h).grown hg (fun k hk hlt _ => by have := hr k hk; omega)).below
theorem exInfo : (Tryz.prog.info? 64).map (fun i => (i.zero, i.size, i.bytes)) = some (some (.agg #[.int .i64 0, .string ⟨#[]⟩, .int .i64 0, .slice none 0 0]), 4, 56) := by kernel_rfl
theorem alloc_get (w : World) (o : Obj) : (w.alloc o).heap[w.heap.size]? = some o := by unfold World.alloc; simp
/-- A new row that holds nothing yet. -/
theorem growE_calls (n : Nat) (hn : 0 < n) (hle : n ≤ 1048576) (w : World) :
    Calls Tryz.prog 126 #[.slice none 0 0, .int .i64 n] w fun e w' => ∃ g cap, e = .returned (.slice (some ⟨g, 0, none⟩) 0 cap) ∧ w'.ownsRow w.heap.size 64 4 (.slice (some ⟨g, 0, none⟩) 0 cap) 0 [] ∧ Below w.heap.size w w' := by
  obtain ⟨i0, hi, hz0, hz1, hz2⟩ := info_parts exInfo
  have hb : n * i0.bytes ≤ 1048576 * 56 := by rw [hz2]; exact Nat.mul_le_mul_right _ hle
  refine (Any8.slices_Grow_grow Tryz.growE i0 _ hi hz0 (by omega) none 0 0 n [] w (Nat.le_refl _) (by omega) (by rw [Nat.zero_add]; omega) (by omega) (by simp) (fun _ => rfl) (by simp)).mono ?_
  rintro e w' ⟨rfl, rfl⟩
  have h1 := grownCap_ge w (0 + n) 0 64
  have h2 := grownCap_le_maxLen w (0 + n) 0 64 (by unfold maxLen; omega)
  refine ⟨_, _, rfl, ⟨rfl, Or.inr ⟨_, _, _, rfl, Nat.le_refl _, alloc_get w.drew _, Nat.zero_le _, h2, ?_, by simp⟩⟩, ?_⟩
  · rw [Array.size_append, Array.size_append, size_zeroCells, size_zeroCells]
    show 0 + (0 + n - 0) * 4 + (grownCap w (0 + n) 0 64 - (0 + n)) * 4 = grownCap w (0 + n) 0 64 * 4
    omega
  · exact below2 (Below.drew (Below.refl _ _)) (bel_alloc _ _)
set_option maxHeartbeats 4000000 in
theorem concatE_calls (ok : Nat → Prop) (v1 v2 : Value) (l1 l2 : List Ex) (c1 c2 : List Value) (w : World) (B : Nat) (b0 : w.cell? ⟨B, 0, none⟩ = some v1) (b1 : w.cell? ⟨B, 1, none⟩ = some v2) (hB : B < w.heap.size)
    (h1 : RdK ok w v1 l1.length 4 c1) (e1 : ExsC ok w l1 c1) (h2 : RdK ok w v2 l2.length 4 c2) (e2 : ExsC ok w l2 c2) (hn : l1.length + l2.length ≤ 1048576) (hp : 0 < l2.length) :
    Calls Tryz.prog 82 #[.slice (some ⟨B, 0, none⟩) 2 2] w fun e w' => ∃ g cap, e = .returned (.slice (some ⟨g, 0, none⟩) (l1.length + l2.length) cap) ∧
      w'.ownsRow w.heap.size 64 4 (.slice (some ⟨g, 0, none⟩) (l1.length + l2.length) cap) (l1.length + l2.length) (c1 ++ c2) ∧ Below w.heap.size w w' := by
  obtain ⟨i0, hi, hz0, hz1, hz2⟩ := info_parts exInfo
  have HI := Lib.hid (And.intro hi (And.intro hz0 (And.intro hz1 hz2)))
  clear hi hz0 hz1 hz2
  obtain ⟨A1, k1, rfl⟩ := h1.slice
  obtain ⟨A2, k2, rfl⟩ := h2.slice
  have H1 := Lib.hid h1
  have H2 := Lib.hid h2
  have O1 := Lib.hid e1.one
  have O2 := Lib.hid e2.one
  clear h1 h2 e1 e2
  generalize hl1 : l1.length = n1 at *
  generalize hl2 : l2.length = n2 at *
  clear hl1 hl2
  have w0 : wrap64 ((0 : Int) + n1) = n1 := by unfold wrap64; omega
  have w0' : wrap64 (n1 : Int) = n1 := by unfold wrap64; omega
  have w1 : wrap64 ((n1 : Int) + n2) = n1 + n2 := by unfold wrap64; omega
  have t1 : ¬ ((n1 : Int) < 0) := by omega
  have t2 : ¬ ((n1 : Int) + n2 < 0) := by omega
  go_enter Tryz.func82, Tryz.ntmps82
  go_wp2_with fail
  go_loopw [3, 11] (fun s k W => W = w ∧ ((k = .int .i64 0 ∧ s = .int .i64 0) ∨ (k = .int .i64 1 ∧ s = .int .i64 n1) ∨ (k = .int .i64 2 ∧ s = .int .i64 ((n1 : Int) + n2)))) (fun _ k _ => 2 - (intOf k).toNat)
  case atStart => exact ⟨rfl, Or.inl ⟨rfl, rfl⟩⟩
  case round =>
    obtain ⟨rfl, ⟨rfl, rfl⟩ | ⟨rfl, rfl⟩ | ⟨rfl, rfl⟩⟩ := hrel
    · go_wp2_with fail
      go_roundw
      case rel => exact ⟨by first | rfl | trivial, Or.inr (Or.inl ⟨by go_num, rfl⟩)⟩
      case measure => simp [intOf]
    · go_wp2_with fail
      go_roundw
      case rel => exact ⟨by first | rfl | trivial, Or.inr (Or.inr ⟨by go_num, rfl⟩)⟩
      case measure => simp [intOf]
    · have hg := growE_calls (n1 + n2) (by omega) hn wr
      rw [Int.natCast_add] at hg
      go_wp2_with fail
      refine hg.mono ?_
      rintro e w2 ⟨g0, cap0, rfl, hown, hb⟩
      have Own0 := Lib.hid hown
      have HB0 := Lib.hid hb
      clear hown hb hg
      go_wp2_with fail
      obtain ⟨ws, hws⟩ : ∃ ws : World, ws = wr := ⟨_, rfl⟩
      subst hws
      go_loopw [6, 27] (fun v k W => ∃ (g cap : Nat), Below ws.heap.size ws W ∧ ((k = .int .i64 0 ∧ v = .slice (some ⟨g, 0, none⟩) 0 cap ∧ W.ownsRow ws.heap.size 64 4 (.slice (some ⟨g, 0, none⟩) 0 cap) 0 []) ∨ (k = .int .i64 1 ∧ v = .slice (some ⟨g, 0, none⟩) n1 cap ∧ W.ownsRow ws.heap.size 64 4 (.slice (some ⟨g, 0, none⟩) n1 cap) n1 c1) ∨ (k = .int .i64 2 ∧ v = .slice (some ⟨g, 0, none⟩) (n1 + n2) cap ∧ W.ownsRow ws.heap.size 64 4 (.slice (some ⟨g, 0, none⟩) (n1 + n2) cap) (n1 + n2) (c1 ++ c2)))) (fun _ k _ => 2 - (intOf k).toNat)
      case atStart => exact ⟨g0, cap0, HB0.out, Or.inl ⟨rfl, rfl, Own0.out⟩⟩
      case round =>
        obtain ⟨g, cap, hb, ⟨rfl, rfl, hown⟩ | ⟨rfl, rfl, hown⟩ | ⟨rfl, rfl, hown⟩⟩ := hrel
        all_goals
          have HB := Lib.hid hb
          have Own := Lib.hid hown
          have q0 := ((bcell hb).1 B 0 hB).trans b0
          have q1 := ((bcell hb).1 B 1 hB).trans b1
          clear hb hown
        · go_wp2_with (first | (at_builtin; refine wpList_append_rd (ok := ok) rfl _ _ 61 rfl ws.heap.size 64 i0 _ 4 56 Tryz.underlying61 HI.out.1 HI.out.2.1 HI.out.2.2.1 HI.out.2.2.2 rfl (by decide) g 0 cap [] rfl Own.out _ n1 c1 rfl (H1.out.gr (Gr.of_below _ HB.out)) O1.out (by omega) (by decide) HB.out.size ?_; intro g' cap' w3 hown3 hg3 hat3) | fail)
          rw [Nat.zero_add, List.nil_append] at hown3
          have Own3 := Lib.hid hown3
          have HB3 := Lib.hid (below_grown HB.out hg3 (fun k hk => by injection hk with hk; subst hk; exact (Own.out.lt g rfl).1))
          clear hown3 hg3 hat3
          go_roundw
          case rel => exact ⟨g', cap', HB3.out, Or.inr (Or.inl ⟨by go_num, rfl, Own3.out⟩)⟩
          case measure => simp [intOf]
        · go_wp2_with (first | (at_builtin; refine wpList_append_rd (ok := ok) rfl _ _ 61 rfl ws.heap.size 64 i0 _ 4 56 Tryz.underlying61 HI.out.1 HI.out.2.1 HI.out.2.2.1 HI.out.2.2.2 rfl (by decide) g n1 cap c1 rfl Own.out _ n2 c2 rfl (H2.out.gr (Gr.of_below _ HB.out)) O2.out (by omega) (by decide) HB.out.size ?_; intro g' cap' w3 hown3 hg3 hat3) | fail)
          have Own3 := Lib.hid hown3
          have HB3 := Lib.hid (below_grown HB.out hg3 (fun k hk => by injection hk with hk; subst hk; exact (Own.out.lt g rfl).1))
          clear hown3 hg3 hat3
          go_roundw
          case rel => exact ⟨g', cap', HB3.out, Or.inr (Or.inr ⟨by go_num, rfl, Own3.out⟩)⟩
          case measure => simp [intOf]
        · go_wp2_with fail
          go_ret
          exact ⟨g, cap, rfl, Own.out, HB.out⟩
end
end Go.Proofs.YtokdcfehnhifhaaGreatDoor
