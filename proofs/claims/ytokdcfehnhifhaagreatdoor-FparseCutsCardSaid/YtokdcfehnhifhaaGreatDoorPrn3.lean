/- How many statements there are. What a right program is, piece by piece. -/
import Derived.Test.YtokdcfehnhifhaaGreatDoorChk4
import Derived.Test.YtokdcfehnhifhaaGreatDoorPrn2
import Derived.Deep.CutRange
import Derived.IntWalk
namespace Go.Proofs.YtokdcfehnhifhaaGreatDoor
/-! How many statements there are. -/
section
set_option linter.unusedVariables false
set_option linter.unusedSimpArgs false
open Go.RowKit

mutual
def St.pts : St → Nat
  | .mk _ _ _ _ _ _ t e => 1 + stsPts t + stsPts e
def stsPts : List St → Nat
  | [] => 0
  | s :: r => s.pts + stsPts r
end
theorem stsPts_append : ∀ a b : List St, stsPts (a ++ b) = stsPts a + stsPts b
  | [], b => by simp [stsPts]
  | s :: a, b => by simp only [List.cons_append, stsPts, stsPts_append a b]; omega
theorem stsPts_take {l : List St} {q : Nat} (h : q < l.length) : stsPts (l.take (q + 1)) = stsPts (l.take q) + l[q].pts := by
  rw [List.take_succ_eq_append_getElem h, stsPts_append]
  simp [stsPts]
theorem stsPts_le (l : List St) (q : Nat) : stsPts (l.take q) ≤ stsPts l := by
  conv => rhs; rw [← List.take_append_drop q l, stsPts_append]
  omega
theorem stsPts_len : ∀ l : List St, l.length ≤ stsPts l
  | [] => by simp
  | s :: r => by
    have := stsPts_len r
    obtain ⟨x1, x2, x3, x4, x5, x6, x7, x8⟩ := s
    simp only [List.length_cons, stsPts, St.pts]
    omega
theorem St.pts_eq (x : St) : x.pts = 1 + stsPts x.then_ + stsPts x.else_ := by
  obtain ⟨x1, x2, x3, x4, x5, x6, x7, x8⟩ := x
  simp only [St.pts, St.then_, St.else_]
def PtCalls (N : Nat) : Prop := ∀ (l : List St), stsSz l < N → stsPts l ≤ 1099511627776 → ∀ (A : Option Addr) (c : Nat) (w : World) (cs : List Value),
  RdK (fun _ => True) w (.slice A l.length c) l.length 17 cs → StsC (fun _ => True) w l cs →
  Calls Tryz.prog 48 #[.slice A l.length c] w fun r w' => r = .returned (.int .i64 (stsPts l)) ∧ Below w.heap.size w w'
theorem below_drw (w : World) : Below w.heap.size w w.drew := Below.drew (Below.refl _ _)
set_option maxRecDepth 20000 in
set_option maxHeartbeats 4000000 in
theorem pt_step (N : Nat) (ih : ∀ k, k ≤ N → PtCalls k) : PtCalls (N + 1) := by
  intro l hN hpt A c w cs hv hx
  have hn := hv.le
  have Hv := Lib.hid hv
  have Hx := Lib.hid hx
  have HN := Lib.hid hN
  have Hp := Lib.hid hpt
  have hln := stsPts_len l
  clear hv hx hN hpt
  go_enter Tryz.func48, Tryz.ntmps48
  go_wp2_with fail
  go_loopw [3, 10] (fun n k V => ∃ q : Nat, k = .int .i64 q ∧ q ≤ l.length ∧ n = .int .i64 ((stsPts (l.take q) + (l.length - q) : Nat) : Int) ∧ Below w.heap.size w V) (fun _ k _ => l.length - (intOf k).toNat)
  case atStart => exact ⟨0, rfl, by omega, by simp [stsPts], Below.refl _ _⟩
  case round =>
    obtain ⟨q, rfl, hq, rfl, hb⟩ := hrel
    by_cases hlt2 : q < l.length
    · obtain ⟨b, off, c', a, hsl, hle, hbl, ho, hra, hst⟩ := (Hx.out.gr (Gr.of_below _ hb)).elem (Hv.out.gr (Gr.of_below _ hb)) q hlt2
      injection hsl with hA hn' hc'
      subst hA hc'
      have hszx : l[q].sz ≤ N := by
        have h1 := stsSz_get l q hlt2
        have h2 := HN.out
        omega
      have htk := stsPts_take hlt2
      have hl1 := stsPts_le l (q + 1)
      have hpe := l[q].pts_eq
      have hsp := l[q].sz_parts
      have hpt := Hp.out
      rw [htk] at hl1
      clear hn'
      generalize l[q] = x at *
      obtain ⟨A1, c1, ic, A2, c2, A3, c3, A4, c4, A5, c5, tc, A6, c6, ec, rfl, i1, i2, hv1, hl1', hh1, ht1, ht2, he1, he2⟩ := hst.form
      have T1 := Lib.hid ht1
      have T2 := Lib.hid ht2
      have E1 := Lib.hid he1
      have E2 := Lib.hid he2
      have RA := Lib.hid hra
      have Htk := Lib.hid htk
      have HB := Lib.hid hb
      have ihn := Lib.hid (ih N (Nat.le_refl _))
      clear i1 i2 hv1 hl1' hh1 ht1 ht2 he1 he2 hst hra hb htk
      go_upto_region 5 with (first | (refine wpList_load_mid rfl _ _ rfl _ _ rfl _ _ RA.out Tryz.underlying66 rfl (by kernel_rfl) ?_) | (refine wpList_store_new _ _ _ rfl _ _ rfl _ _ rfl rfl rfl (by kernel_rfl) rfl (by kernel_rfl) ?_) | fail)
      refine wp_named (fun V hb hc hz => ?_)
      have hBV : wr.heap.size < V.heap.size := by omega
      clear hz
      have Bx := Lib.hid (show ∀ j u, ([.int .i64 x.do_, .string ⟨x.name.toArray⟩, .slice A1 x.index.length c1, .int .i64 x.value.op, .string ⟨x.value.text.toArray⟩, .int .i64 x.value.ty, .slice A2 x.value.kids.length c2, .int .i64 x.low.op, .string ⟨x.low.text.toArray⟩, .int .i64 x.low.ty, .slice A3 x.low.kids.length c3, .int .i64 x.high.op, .string ⟨x.high.text.toArray⟩, .int .i64 x.high.ty, .slice A4 x.high.kids.length c4, .slice A5 x.then_.length c5, .slice A6 x.else_.length c6] : List Value)[j]? = some u → V.cell? ⟨wr.heap.size, j, none⟩ = some u from fun j v hj => hc j v (by simpa using hj))
      have GV := Lib.hid (Gr.of_below (fun _ => True) hb)
      have HBV := Lib.hid (below2 HB.out hb)
      clear hb hc
      have g15 := Bx.out 15 _ rfl
      have g16 := Bx.out 16 _ rfl
      generalize wr.heap.size = BX at *
      have hpa : 0 ≤ (stsPts x.then_ : Int) := by omega
      have hpb : 0 ≤ (stsPts x.else_ : Int) := by omega
      have hs1 : IntKind.i64.wrap ((stsPts x.then_ : Int) + (stsPts x.else_ : Int)) = (stsPts x.then_ : Int) + (stsPts x.else_ : Int) := IntWalk.i64_in _ (by omega)
      have hs2 : IntKind.i64.wrap (((stsPts (l.take q) + (l.length - q) : Nat) : Int) + ((stsPts x.then_ : Int) + (stsPts x.else_ : Int))) = ((stsPts (l.take q) + (l.length - q) : Nat) : Int) + ((stsPts x.then_ : Int) + (stsPts x.else_ : Int)) := IntWalk.i64_in _ (by omega)
      have HBx := Lib.hid (below_drw V)
      have b1 : stsSz x.then_ < N := by omega
      have b2 : stsSz x.else_ < N := by omega
      have b3 : stsPts x.then_ ≤ 1099511627776 := by omega
      have b4 : stsPts x.else_ ≤ 1099511627776 := by omega
      go_region_with (first | (go_at_call_of 48 A5; refine (ihn.out x.then_ b1 b3 A5 c5 _ tc ((T1.out.gr GV.out).gr (Gr.of_below _ HBx.out)) ((T2.out.gr GV.out).gr (Gr.of_below _ HBx.out))).mono ?_; rintro e w5 ⟨rfl, hb⟩; have HBx := Lib.hid (below2 HBx.out hb); clear hb g15 g16; have g15 := ((bcell HBx.out).1 BX 15 hBV).trans (Bx.out 15 _ rfl); have g16 := ((bcell HBx.out).1 BX 16 hBV).trans (Bx.out 16 _ rfl)) | (go_at_call_of 48 A6; refine (ihn.out x.else_ b2 b4 A6 c6 _ ec ((E1.out.gr GV.out).gr (Gr.of_below _ HBx.out)) ((E2.out.gr GV.out).gr (Gr.of_below _ HBx.out))).mono ?_; rintro e w5 ⟨rfl, hb⟩; have HBx := Lib.hid (below2 HBx.out hb); clear hb g15 g16; have g15 := ((bcell HBx.out).1 BX 15 hBV).trans (Bx.out 15 _ rfl); have g16 := ((bcell HBx.out).1 BX 16 hBV).trans (Bx.out 16 _ rfl)) | fail)
      all_goals
        go_wp2_with fail
        go_roundw
        case rel => exact ⟨q + 1, by go_num, by omega, by rw [Htk.out]; congr 1; omega, below2 HBV.out HBx.out⟩
        case measure => simp [intOf]; omega
    · obtain rfl : q = l.length := by omega
      have HB := Lib.hid hb
      clear hb
      go_wp2_with fail
      go_ret
      have e : stsPts (l.take l.length) + (l.length - l.length) = stsPts l := by rw [List.take_length]; omega
      exact ⟨by rw [← e]; simp, HB.out⟩
theorem pt_all : ∀ N k, k ≤ N → PtCalls k
  | 0, k, hk => by
    intro l hN
    omega
  | N + 1, k, hk => by
    by_cases h : k ≤ N
    · exact pt_all N k h
    · obtain rfl : k = N + 1 := by omega
      exact pt_step N (pt_all N)
theorem points_calls (l : List St) (hp : stsPts l ≤ 1099511627776) (A : Option Addr) (c : Nat) (w : World) (cs : List Value) (hv : RdK (fun _ => True) w (.slice A l.length c) l.length 17 cs) (hx : StsC (fun _ => True) w l cs) :
    Calls Tryz.prog 48 #[.slice A l.length c] w fun r w' => r = .returned (.int .i64 (stsPts l)) ∧ Below w.heap.size w w' :=
  pt_all (stsSz l + 1) _ (Nat.le_refl _) l (by omega) hp A c w cs hv hx
end

/-! What a right program is, piece by piece. -/
section
set_option linter.unusedVariables false
set_option linter.unusedSimpArgs false
open Go.RowKit

theorem much_bad {m : MS} (h : m.much = false) {b c : Bool} (hb : m.bad = (b || !c)) : c = true := by
  have := (not_much h).1
  rw [hb] at this
  cases c <;> simp_all
mutual
theorem mEx_ok : ∀ (e : Ex) (d : Int) (m : MS), (mEx e d m).much = false → e.okE
  | .mk o t y k, d, m, h => by
    unfold mEx at h
    split at h
    · rename_i hm; rw [hm] at h; cases h
    · rename_i hm
      simp only [Ex.okE]
      exact ⟨much_bad (m := ⟨m.points, m.exprs + 1, max m.deep d, m.bad || !aloneB o t y k.length⟩) (by simpa using hm) rfl, mExs_ok k _ _ h⟩
theorem mExs_ok : ∀ (l : List Ex) (d : Int) (m : MS), (mExs l d m).much = false → exsOk l
  | [], d, m, h => by simp only [exsOk]
  | e :: r, d, m, h => by
    unfold mExs at h
    split at h
    · rename_i hm; rw [hm] at h; cases h
    · rename_i hm
      simp only [exsOk]
      exact ⟨mEx_ok e d m (by simpa using hm), mExs_ok r d _ h⟩
end
theorem mEs_ok : ∀ (l : List Ex) (m : MS), (mEs l m).much = false → ExsOkN l
  | [], m, h => fun e he => by cases he
  | e :: r, m, h => by
    unfold mEs at h
    split at h
    · rename_i hm; rw [hm] at h; cases h
    · rename_i hm
      intro x hx h0
      rcases List.mem_cons.1 hx with rfl | hx
      · have hm : (mE1 x m).much = false := by simpa using hm
        unfold mE1 at hm
        rw [if_neg h0] at hm
        exact mEx_ok x 1 m hm
      · exact mEs_ok r _ h x hx h0
theorem mSts_much (l : List St) (d : Int) (m : MS) (hm : m.much = true) : (mSts l d m).much = true := by
  cases l with
  | nil => unfold mSts; exact hm
  | cons s r =>
    obtain ⟨dd, n, ix, v, lo, h, t, e⟩ := s
    have hmu : (MS.mk (m.points + 1) m.exprs m.deep (m.bad || !stB (.mk dd n ix v lo h t e))).much = true := by
      simp only [MS.much, Bool.or_eq_true, decide_eq_true_eq] at hm ⊢
      rcases hm with ((hm | hm) | hm) | hm
      · exact Or.inl (Or.inl (Or.inl (Or.inl hm)))
      · exact Or.inl (Or.inl (Or.inr (by omega)))
      · exact Or.inl (Or.inr hm)
      · exact Or.inr hm
    have e1 : mSt (.mk dd n ix v lo h t e) d m = ⟨m.points + 1, m.exprs, m.deep, m.bad || !stB (.mk dd n ix v lo h t e)⟩ := by rw [mSt, if_pos hmu]
    unfold mSts
    rw [e1, if_pos hmu]
    exact hmu
theorem mSts_not {l : List St} {d : Int} {m : MS} (h : (mSts l d m).much = false) : m.much = false := by
  cases hm : m.much with
  | false => rfl
  | true => rw [mSts_much l d m hm] at h; cases h
theorem deepen_not {b : Bool} {d : Int} {m : MS} (h : (deepen b d m).much = false) : m.much = false := by
  cases hm : m.much with
  | false => rfl
  | true => rw [deepen_past b d m hm] at h; cases h
mutual
theorem mSt_ok : ∀ (s : St) (d : Int) (m : MS), (mSt s d m).much = false → s.okS ∧ (mSt s d m).points = m.points + s.pts
  | .mk dd n ix v lo hh t e, d, m, h => by
    have hE : mSt (.mk dd n ix v lo hh t e) d m = if (MS.mk (m.points + 1) m.exprs m.deep (m.bad || !stB (.mk dd n ix v lo hh t e))).much = true then ⟨m.points + 1, m.exprs, m.deep, m.bad || !stB (.mk dd n ix v lo hh t e)⟩
      else if (mEs (ix ++ [v, lo, hh]) ⟨m.points + 1, m.exprs, m.deep, m.bad || !stB (.mk dd n ix v lo hh t e)⟩).much = true then mEs (ix ++ [v, lo, hh]) ⟨m.points + 1, m.exprs, m.deep, m.bad || !stB (.mk dd n ix v lo hh t e)⟩
      else mBlk e (d + 1) (mBlk t (d + 1) (mEs (ix ++ [v, lo, hh]) ⟨m.points + 1, m.exprs, m.deep, m.bad || !stB (.mk dd n ix v lo hh t e)⟩)) := mSt_eq (.mk dd n ix v lo hh t e) d m
    generalize hM1 : MS.mk (m.points + 1) m.exprs m.deep (m.bad || !stB (.mk dd n ix v lo hh t e)) = M1 at *
    have p1 : M1.points = m.points + 1 := by rw [← hM1]
    have b1 : M1.bad = (m.bad || !stB (.mk dd n ix v lo hh t e)) := by rw [← hM1]
    clear hM1
    by_cases h1 : M1.much = true
    · rw [hE, if_pos h1, h1] at h; cases h
    · rw [if_neg h1] at hE
      by_cases h2 : (mEs (ix ++ [v, lo, hh]) M1).much = true
      · rw [hE, if_pos h2, h2] at h; cases h
      · rw [if_neg h2] at hE
        have p2 := mEs_points (ix ++ [v, lo, hh]) M1
        have o2 := mEs_ok (ix ++ [v, lo, hh]) M1 (by simpa using h2)
        generalize mEs (ix ++ [v, lo, hh]) M1 = M2 at *
        rw [hE] at h ⊢
        unfold mBlk at h ⊢
        have h3 := mSts_not h
        have h4 := deepen_not h3
        have k4 := mSts_ok t (d + 1) (deepen (!t.isEmpty) (d + 1) M2) h4
        have k5 := mSts_ok e (d + 1) _ h
        rw [(deepen_points _ _ _).1] at k4 k5
        simp only [St.okS, St.pts]
        refine ⟨⟨much_bad (m := M1) (by simpa using h1) b1, o2, k4.1, k5.1⟩, ?_⟩
        rw [k5.2, k4.2, p2, p1]
        omega
theorem mSts_ok : ∀ (l : List St) (d : Int) (m : MS), (mSts l d m).much = false → stsOk l ∧ (mSts l d m).points = m.points + stsPts l
  | [], d, m, h => by unfold mSts; simp only [stsOk, stsPts]; exact ⟨trivial, by omega⟩
  | s :: r, d, m, h => by
    unfold mSts at h ⊢
    split at h
    · rename_i hm; rw [hm] at h; cases h
    · rename_i hm
      rw [if_neg hm]
      have k1 := mSt_ok s d m (by simpa using hm)
      have k2 := mSts_ok r d _ h
      simp only [stsOk, stsPts]
      exact ⟨⟨k1.1, k2.1⟩, by rw [k2.2, k1.2]; omega⟩
end
structure RightP (p : Pg) : Prop where
  body : stsOk p.body
  pts : stsPts p.body ≤ 256
  decls : p.decls.length ≤ 24
  each : ∀ d ∈ p.decls, badD d = false
theorem right_ok {p : Pg} (h : rightB p = true) : RightP p := by
  have hm : (rightM p).much = false := by unfold rightB at h; simpa using h
  have hb : (mBlk p.body 1 ⟨0, 0, 0, decide (24 < (p.decls.length : Int)) || p.decls.any badD⟩).much = false := hm
  unfold mBlk at hb
  have k := mSts_ok p.body 1 _ hb
  have d0 := mSts_not hb
  have d1 := deepen_not d0
  have n1 := (not_much hb).2.1
  have n2 := (not_much d1).1
  rw [k.2, (deepen_points _ _ _).1] at n1
  simp only [Bool.or_eq_false_iff, decide_eq_false_iff_not, List.any_eq_false] at n2
  exact ⟨k.1, by simp only at n1; omega, by have := n2.1; omega, fun d hd => by simpa using n2.2 d hd⟩
end
end Go.Proofs.YtokdcfehnhifhaaGreatDoor
