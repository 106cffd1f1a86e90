/- The measure of statements, walked. Declarations; a program is right. A program is right. -/
import Derived.Test.YtokdcfehnhifhaaGreatDoorChk3
import Derived.Deep.CutRange
namespace Go.Proofs.YtokdcfehnhifhaaGreatDoor
/-! The measure of statements, walked. -/
section
set_option linter.unusedVariables false
set_option linter.unusedSimpArgs false
open Go.RowKit

/-- An element of a row of statements. -/
theorem StsC.elem {ok : Nat → Prop} {w : World} {v : Value} {l : List St} {cs : List Value} (hv : RdK ok w v l.length 17 cs) (hl : StsC ok w l cs) (k : Nat) (hk : k < l.length) :
    ∃ b off c a, v = .slice (some ⟨b, off, none⟩) l.length c ∧ l.length ≤ c ∧ b < w.heap.size ∧ ok b ∧ w.rangeAt b (off + k * 17) a ∧ StC ok w l[k] a := by
  obtain ⟨b, off, c, hsl, hle, ho, hlt, hc⟩ := hv.pos (by omega)
  obtain ⟨a, ha, hg⟩ := hl.get k hk
  refine ⟨b, off, c, a, hsl, hle, hlt, ho, fun j v hj => ?_, ha⟩
  rw [Nat.add_assoc]
  exact hc _ _ (hg j v hj)
theorem mSt_eq (x : St) (d : Int) (mq : MS) : mSt x d mq = if (MS.mk (mq.points + 1) mq.exprs mq.deep (mq.bad || !stB x)).much = true then ⟨mq.points + 1, mq.exprs, mq.deep, mq.bad || !stB x⟩
    else if (mEs (x.index ++ [x.value, x.low, x.high]) ⟨mq.points + 1, mq.exprs, mq.deep, mq.bad || !stB x⟩).much = true then mEs (x.index ++ [x.value, x.low, x.high]) ⟨mq.points + 1, mq.exprs, mq.deep, mq.bad || !stB x⟩
    else mBlk x.else_ (d + 1) (mBlk x.then_ (d + 1) (mEs (x.index ++ [x.value, x.low, x.high]) ⟨mq.points + 1, mq.exprs, mq.deep, mq.bad || !stB x⟩)) := by
  obtain ⟨x1, x2, x3, x4, x5, x6, x7, x8⟩ := x
  rw [mSt]
  rfl
theorem Has.of_cells {w : World} {b : Nat} {cs : Array Value} (hb : b < w.heap.size) (h : ∀ j u, cs[j]? = some u → w.cell? ⟨b, j, none⟩ = some u) : ∀ j u, cs.toList[j]? = some u → w.cell? ⟨b, j, none⟩ = some u := fun j u hj => h j u (by simpa using hj)
theorem cells_gr {ok : Nat → Prop} {w w' : World} {b : Nat} {cs : List Value} (h : ∀ j u, cs[j]? = some u → w.cell? ⟨b, j, none⟩ = some u) (hg : Gr ok w w') (hb : b < w.heap.size) (ho : ok b) : ∀ j u, cs[j]? = some u → w'.cell? ⟨b, j, none⟩ = some u :=
  fun j u hj => by rw [hg.cell (p := ⟨b, j, none⟩) hb ho]; exact h j u hj
theorem rangeAt_gr {ok : Nat → Prop} {w w' : World} {b o : Nat} {cs : List Value} (h : w.rangeAt b o cs) (hg : Gr ok w w') (hb : b < w.heap.size) (ho : ok b) : w'.rangeAt b o cs :=
  fun j v hj => by rw [hg.cell (p := ⟨b, o + j, none⟩) hb ho]; exact h j v hj
theorem rows_three {ok : Nat → Prop} {W : World} {x y z : Ex} {a1 a2 a3 a4 b1 b2 b3 b4 d1 d2 d3 d4 : Value} {t : TypeId} (hx : ExC ok W x [a1, a2, a3, a4]) (hy : ExC ok W y [b1, b2, b3, b4]) (hz : ExC ok W z [d1, d2, d3, d4]) (ho : ok W.heap.size) :
    RdK ok (W.alloc (.cells #[a1, a2, a3, a4, b1, b2, b3, b4, d1, d2, d3, d4] t)) (.slice (some ⟨W.heap.size, 0, none⟩) 3 3) [x, y, z].length 4 [a1, a2, a3, a4, b1, b2, b3, b4, d1, d2, d3, d4] ∧ ExsC ok (W.alloc (.cells #[a1, a2, a3, a4, b1, b2, b3, b4, d1, d2, d3, d4] t)) [x, y, z] [a1, a2, a3, a4, b1, b2, b3, b4, d1, d2, d3, d4] := by
  refine ⟨?_, ?_⟩
  · refine ⟨rfl, by simp, Or.inr ⟨_, 0, 3, rfl, by simp, ho, by simp, fun j u hj => ?_⟩⟩
    rw [Nat.zero_add, World.cell?_alloc_new]
    simpa using hj
  · simp only [ExsC]
    exact ⟨[a1, a2, a3, a4], [b1, b2, b3, b4, d1, d2, d3, d4], by simp, hx.gr (Gr.of_below _ (bel_alloc _ _)), [b1, b2, b3, b4], [d1, d2, d3, d4], by simp, hy.gr (Gr.of_below _ (bel_alloc _ _)), [d1, d2, d3, d4], [], by simp, hz.gr (Gr.of_below _ (bel_alloc _ _)), rfl⟩
theorem stB_index {x : St} (h : stB x = true) : x.index.length ≤ 1 := by
  unfold stB at h
  split at h
  · simp at h; omega
  · split at h
    · simp at h
      have := h.1.1.1.2
      simp [this]
    · split at h
      · simp at h
        have := h.1.2
        simp [this]
      · simp at h
theorem exsTx_append : ∀ {l r : List Ex}, exsTx l → exsTx r → exsTx (l ++ r)
  | [], r, _, h => h
  | e :: l, r, h, h2 => by simp only [exsTx, List.cons_append] at h ⊢; exact ⟨h.1, exsTx_append h.2 h2⟩
theorem full_tx {x : St} (h : x.tx) : exsTx (x.index ++ [x.value, x.low, x.high]) ∧ stsTx x.then_ ∧ stsTx x.else_ := by
  obtain ⟨x1, x2, x3, x4, x5, x6, x7, x8⟩ := x
  simp only [St.tx] at h
  exact ⟨exsTx_append h.2.1 (by simp only [exsTx]; exact ⟨h.2.2.1, h.2.2.2.1, h.2.2.2.2.1, trivial⟩), h.2.2.2.2.2⟩
theorem St.sz_parts (x : St) : stsSz x.then_ + stsSz x.else_ + 1 ≤ x.sz := by
  obtain ⟨x1, x2, x3, x4, x5, x6, x7, x8⟩ := x
  simp only [St.sz, St.then_, St.else_]
  omega
def BCalls (N : Nat) : Prop := ∀ (l : List St), stsSz l < N → ∀ (d : Int) (m : MS) (mb : Nat) (A : Option Addr) (c : Nat) (w : World) (cs : List Value), MSt w mb m → 0 ≤ m.points → m.points ≤ 500 → 0 ≤ m.exprs → 0 ≤ d → d ≤ 1000 → stsTx l →
  RdK (· ≠ mb) w (.slice A l.length c) l.length 17 cs → StsC (· ≠ mb) w l cs →
  Calls Tryz.prog 41 #[.pointer (some ⟨mb, 0, none⟩), .slice A l.length c, .int .i64 d] w
    fun r w' => r = .returned (.tuple #[]) ∧ MSt w' mb (mBlk l d m) ∧ Gr (· ≠ mb) w w'
set_option maxRecDepth 20000 in
set_option maxHeartbeats 8000000 in
theorem block_round (N : Nat) (ih : ∀ k, k ≤ N → BCalls k) : BCalls (N + 1) := by
  intro l hN d m mb A c w cs hm hp0 hp1 he0 hd0 hd1 htx hv hx
  have hlt := hm.lt
  have M := Lib.hid hm
  have Hv := Lib.hid hv
  have Hx := Lib.hid hx
  have Tx := Lib.hid htx
  have HN := Lib.hid hN
  have hn := hv.le
  clear hm hv hx htx hN
  obtain ⟨c0, c1, c2, c3, f0, f1, f2, f3, hz⟩ := M.out.c4
  by_cases hl0 : l.length = 0
  · obtain rfl : l = [] := List.eq_nil_of_length_eq_zero hl0
    simp only [List.length_nil] at *
    go_enter Tryz.func41, Tryz.ntmps41
    go_wp2_with fail
    go_loopw [24] (fun k W => k = .int .i64 0 ∧ W = w) (fun _ _ => 0)
    case atStart => exact ⟨rfl, rfl⟩
    case round =>
      obtain ⟨rfl, rfl⟩ := hrel
      go_wp2_with fail
      first | go_end0 | refine bodyPost_ret (results_none rfl _ _ _) rfl ?_
      refine ⟨rfl, ?_, Gr.refl _ _⟩
      have : mBlk [] d m = m := by unfold mBlk mSts deepen; rfl
      rw [this]
      exact M.out
  · have hpos : (0 : Int) < l.length := by omega
    have hpos' : decide ((l.length : Int) > 0) = true := by simp; omega
    go_enter Tryz.func41, Tryz.ntmps41
    go_wp2_with fail
    have hM : MSt (w.setCell ⟨mb, 2, none⟩ (.int .i64 (max m.deep d))) mb ⟨m.points, m.exprs, max m.deep d, m.bad⟩ := M.out.set 2 (.int .i64 (max m.deep d)) (by simp)
    have hG := setCell_gr w mb 2 (.int .i64 (max m.deep d))
    have hE : mBlk l d m = mSts l d ⟨m.points, m.exprs, max m.deep d, m.bad⟩ := by
      cases l with
      | nil => simp at hl0
      | cons s r => rfl
    clear c0 c1 c2 c3 f0 f1 f2 f3
    generalize w.setCell ⟨mb, 2, none⟩ (.int .i64 (max m.deep d)) = W at *
    have hdd : d ≤ (MS.mk m.points m.exprs (max m.deep d) m.bad).deep := by show d ≤ max m.deep d; omega
    have hpp : (MS.mk m.points m.exprs (max m.deep d) m.bad).points = m.points := rfl
    have hee : (MS.mk m.points m.exprs (max m.deep d) m.bad).exprs = m.exprs := rfl
    generalize (MS.mk m.points m.exprs (max m.deep d) m.bad) = m0 at *
    have M0 := Lib.hid hM
    have G0 := Lib.hid hG
    have E0 := Lib.hid hE
    clear hM hG hE
    have hdec : decide (0 < l.length) = true := by simp; omega
    try rw [hdec]
    go_loopw [24] (fun k V => ∃ (q : Nat) (mq : MS), k = .int .i64 q ∧ q ≤ l.length ∧ mBlk l d m = mSts (l.drop q) d mq ∧ MSt V mb mq ∧ 0 ≤ mq.points ∧ mq.points ≤ 500 ∧ 0 ≤ mq.exprs ∧ d ≤ mq.deep ∧ Gr (· ≠ mb) W V) (fun k _ => l.length - (intOf k).toNat)
    case atStart => exact ⟨0, m0, rfl, by omega, by rw [E0.out, List.drop_zero], M0.out, by omega, by omega, by omega, hdd, Gr.refl _ _⟩
    case round =>
      obtain ⟨q, mq, rfl, hq, he, hm, hq0, hq1, hq2, hq3, hg⟩ := hrel
      have Eq := Lib.hid he
      have Mq := Lib.hid hm
      have Gq := Lib.hid hg
      have Gw := Lib.hid (G0.out.trans hg)
      clear he hm hg
      by_cases hlt2 : q < l.length
      · obtain ⟨b, off, c', a, hsl, hle, hbl, ho, hra, hst⟩ := (Hx.out.gr Gw.out).elem (Hv.out.gr Gw.out) q hlt2
        injection hsl with hA hn' hc'
        subst hA hc'
        have hd : l.drop q = l[q] :: l.drop (q + 1) := List.drop_eq_getElem_cons hlt2
        have Hd := Lib.hid hd
        have hszx : l[q].sz ≤ N := by
          have h1 := stsSz_get l q hlt2
          have h2 := HN.out
          omega
        have htx := stsTx_get Tx.out q hlt2
        have Tq := Lib.hid htx
        clear htx hd hn'
        generalize hxx : l[q] = x at *
        clear hxx
        have Xq := Lib.hid hst
        have hal := hst.len
        obtain ⟨A1, c1, ic, A2, c2, A3, c3, A4, c4, A5, c5, tc, A6, c6, ec, rfl, i1, i2, hv1, hl1, hh1, ht1, ht2, he1, he2⟩ := hst.form
        have I1 := Lib.hid i1
        have I2 := Lib.hid i2
        have VV := Lib.hid hv1
        have L1 := Lib.hid hl1
        have H1 := Lib.hid hh1
        have T1 := Lib.hid ht1
        have T2 := Lib.hid ht2
        have E1 := Lib.hid he1
        have E2 := Lib.hid he2
        clear i1 i2 hv1 hl1 hh1 ht1 ht2 he1 he2 hst
        have RA := Lib.hid hra
        clear hra
        go_upto_region 5 with (first | (refine wpList_load_mid rfl _ _ rfl _ _ rfl _ _ RA.out Tryz.underlying66 rfl (by kernel_rfl) ?_) | (refine wpList_store_new _ _ _ rfl _ _ rfl _ _ rfl rfl rfl (by kernel_rfl) rfl (by kernel_rfl) ?_) | fail)
        refine wp_named (fun V hb hc hz => ?_)
        have hlb := Mq.out.lt
        have hbw : Below wr.heap.size wr V := hb
        have MV := Lib.hid (Has.below Mq.out hb)
        have GV := Lib.hid (Gr.of_below (· ≠ mb) hb)
        have RV := Lib.hid (show ∀ j u, ([.int .i64 x.do_, .string ⟨x.name.toArray⟩, .slice A1 x.index.length c1, .int .i64 x.value.op, .string ⟨x.value.text.toArray⟩, .int .i64 x.value.ty, .slice A2 x.value.kids.length c2, .int .i64 x.low.op, .string ⟨x.low.text.toArray⟩, .int .i64 x.low.ty, .slice A3 x.low.kids.length c3, .int .i64 x.high.op, .string ⟨x.high.text.toArray⟩, .int .i64 x.high.ty, .slice A4 x.high.kids.length c4, .slice A5 x.then_.length c5, .slice A6 x.else_.length c6] : List Value)[j]? = some u → V.cell? ⟨wr.heap.size, j, none⟩ = some u from fun j v hj => hc j v (by simpa using hj))
        clear hb hc
        have hBV : wr.heap.size < V.heap.size := by omega
        have hBm : wr.heap.size ≠ mb := by omega
        generalize hBe : wr.heap.size = BX at *
        obtain ⟨c0, c1', c2', c3', f0, f1, f2, f3, hz2⟩ := MV.out.c4
        have hwp : wrap64 (mq.points + 1) = mq.points + 1 := by unfold wrap64; omega
        go_upto_region 6 with fail
        have hM : MSt (V.setCell ⟨mb, 0, none⟩ (.int .i64 (mq.points + 1))) mb ⟨mq.points + 1, mq.exprs, mq.deep, mq.bad⟩ := MV.out.set 0 (.int .i64 (mq.points + 1)) (by simp)
        have hG := (GV.out).trans (setCell_gr V mb 0 (.int .i64 (mq.points + 1)))
        have hR := cells_gr RV.out (setCell_gr V mb 0 (.int .i64 (mq.points + 1))) hBV hBm
        have hS : (V.setCell ⟨mb, 0, none⟩ (.int .i64 (mq.points + 1))).heap.size = V.heap.size := by simp
        clear c0 c1' c2' c3' f0 f1 f2 f3 MV GV RV
        generalize V.setCell ⟨mb, 0, none⟩ (.int .i64 (mq.points + 1)) = V1 at *
        have M1 := Lib.hid hM
        have G1 := Lib.hid hG
        have R1 := Lib.hid hR
        clear hM hG hR
        have hE := mSt_eq x d mq
        have EX := Lib.hid hE
        clear hE
        obtain ⟨c0, c1', c2', c3', f0, f1, f2, f3, hz2⟩ := M1.out.c4
        cases hbad : mq.bad with
        | true =>
          rw [hbad] at c3'
          go_upto_region 7 with fail
          have hM2 : MSt (V1.setCell ⟨mb, 3, none⟩ (.bool true)) mb ⟨mq.points + 1, mq.exprs, mq.deep, true⟩ := M1.out.set 3 (.bool true) (by simp)
          have hG2 := (Gw.out.trans G1.out).trans (setCell_gr V1 mb 3 (.bool true))
          generalize V1.setCell ⟨mb, 3, none⟩ (.bool true) = V2 at *
          have M2 := Lib.hid hM2
          have G2 := Lib.hid hG2
          have Hbad := Lib.hid hbad
          clear hM2 hG2 hbad c0 c1' c2' c3' f0 f1 f2 f3
          go_wp2_with fail
          refine (much_calls _ mb _ M2.out).mono ?_
          rintro e w3 ⟨rfl, rfl⟩
          have hmu : (MS.mk (mq.points + 1) mq.exprs mq.deep true).much = true := by simp [MS.much]
          rw [hmu]
          have Hmu := Lib.hid hmu
          clear hmu
          go_wp2_with fail
          try simp only [Exit.inBlock, Exit.then]
          refine bodyPost_ret (results_none rfl _ _ _) rfl ?_
          refine ⟨rfl, ?_, G2.out⟩
          have e1 := EX.out
          rw [Hbad.out, Bool.true_or, if_pos Hmu.out] at e1
          rw [Eq.out, Hd.out, mSts, e1, if_pos Hmu.out]
          exact M2.out
        | false =>
          rw [hbad] at c3'
          have Xc0 := R1.out 0 _ rfl
          have Xc1 := R1.out 1 _ rfl
          have Xc2 := R1.out 2 _ rfl
          have Xc3 := R1.out 3 _ rfl
          have Xc4 := R1.out 4 _ rfl
          have Xc5 := R1.out 5 _ rfl
          have Xc6 := R1.out 6 _ rfl
          have Xc7 := R1.out 7 _ rfl
          have Xc8 := R1.out 8 _ rfl
          have Xc9 := R1.out 9 _ rfl
          have Xc10 := R1.out 10 _ rfl
          have Xc11 := R1.out 11 _ rfl
          have Xc12 := R1.out 12 _ rfl
          have Xc13 := R1.out 13 _ rfl
          have Xc14 := R1.out 14 _ rfl
          have Xc15 := R1.out 15 _ rfl
          have Xc16 := R1.out 16 _ rfl
          go_upto_region 7 with (first | (go_at_call 81; refine (stmtB_calls x [.int .i64 x.do_, .string ⟨x.name.toArray⟩, .slice A1 x.index.length c1, .int .i64 x.value.op, .string ⟨x.value.text.toArray⟩, .int .i64 x.value.ty, .slice A2 x.value.kids.length c2, .int .i64 x.low.op, .string ⟨x.low.text.toArray⟩, .int .i64 x.low.ty, .slice A3 x.low.kids.length c3, .int .i64 x.high.op, .string ⟨x.high.text.toArray⟩, .int .i64 x.high.ty, .slice A4 x.high.kids.length c4, .slice A5 x.then_.length c5, .slice A6 x.else_.length c6] _ Tq.out ((Xq.out.gr (G1.out)).mono fun _ _ _ => trivial)).mono ?_; rintro e w5 ⟨rfl, hb5⟩; have HB5 := Lib.hid hb5; have M5 := Lib.hid (Has.below M1.out hb5); obtain ⟨cc0, cc1, cc2, cc3, ff0, ff1, ff2, ff3, hz5⟩ := M5.out.c4; clear hb5) | fail)
          have hM2 : MSt (w5.setCell ⟨mb, 3, none⟩ (.bool (!stB x))) mb ⟨mq.points + 1, mq.exprs, mq.deep, !stB x⟩ := M5.out.set 3 (.bool (!stB x)) (by simp)
          have hG2 := (G1.out.trans (Gr.of_below (· ≠ mb) HB5.out)).trans (setCell_gr w5 mb 3 (.bool (!stB x)))
          have hC2 := cells_gr (cells_gr R1.out (Gr.of_below (fun _ => True) HB5.out) (by omega) trivial) (setCell_gr w5 mb 3 (.bool (!stB x))) (by have := HB5.out.size; omega) hBm
          have hsz2 : V.heap.size ≤ (w5.setCell ⟨mb, 3, none⟩ (.bool (!stB x))).heap.size := by have := HB5.out.size; simp; omega
          clear Xc0 Xc1 Xc2 Xc3 Xc4 Xc5 Xc6 Xc7 Xc8 Xc9 Xc10 Xc11 Xc12 Xc13 Xc14 Xc15 Xc16 cc0 cc1 cc2 cc3 ff0 ff1 ff2 ff3 c0 c1' c2' c3' f0 f1 f2 f3 M5 HB5
          have e1 := EX.out
          rw [hbad, Bool.false_or] at e1
          generalize w5.setCell ⟨mb, 3, none⟩ (.bool (!stB x)) = V2 at *
          have hm2p : (MS.mk (mq.points + 1) mq.exprs mq.deep (!stB x)).points = mq.points + 1 := rfl
          have hm2e : (MS.mk (mq.points + 1) mq.exprs mq.deep (!stB x)).exprs = mq.exprs := rfl
          have hm2d : (MS.mk (mq.points + 1) mq.exprs mq.deep (!stB x)).deep = mq.deep := rfl
          have hm2b : (MS.mk (mq.points + 1) mq.exprs mq.deep (!stB x)).bad = !stB x := rfl
          generalize (MS.mk (mq.points + 1) mq.exprs mq.deep (!stB x)) = m2 at *
          have E2x := Lib.hid e1
          have M2 := Lib.hid hM2
          have G2 := Lib.hid hG2
          have C2 := Lib.hid hC2
          clear hM2 hG2 hC2 e1 EX M1 G1 R1 hbad
          go_wp2_with fail
          refine (much_calls _ mb _ M2.out).mono ?_
          rintro e w3 ⟨rfl, rfl⟩
          cases hmu : m2.much with
          | true =>
            have Hmu := Lib.hid hmu
            clear hmu
            go_wp2_with fail
            try simp only [Exit.inBlock, Exit.then]
            refine bodyPost_ret (results_none rfl _ _ _) rfl ?_
            refine ⟨rfl, ?_, Gw.out.trans G2.out⟩
            have e1 := E2x.out
            rw [if_pos Hmu.out] at e1
            rw [Eq.out, Hd.out, mSts, e1, if_pos Hmu.out]
            exact M2.out
          | false =>
            have k2 := not_much hmu
            have e1 := E2x.out
            rw [hmu] at e1
            simp only [if_neg (show ¬ (false = true) by simp)] at e1
            have E3x := Lib.hid e1
            have K2 := Lib.hid k2
            have Hmu2 := Lib.hid hmu
            clear hmu e1 E2x k2
            have X2 := Lib.hid (show w3.cell? ⟨BX, 2, none⟩ = some (.slice A1 x.index.length c1) from C2.out 2 _ rfl)
            have Xc2 := C2.out 2 _ rfl
            have Xc3 := C2.out 3 _ rfl
            have Xc4 := C2.out 4 _ rfl
            have Xc5 := C2.out 5 _ rfl
            have Xc6 := C2.out 6 _ rfl
            have Xc7 := C2.out 7 _ rfl
            have Xc8 := C2.out 8 _ rfl
            have Xc9 := C2.out 9 _ rfl
            have Xc10 := C2.out 10 _ rfl
            have Xc11 := C2.out 11 _ rfl
            have Xc12 := C2.out 12 _ rfl
            have Xc13 := C2.out 13 _ rfl
            have Xc14 := C2.out 14 _ rfl
            have Xc15 := C2.out 15 _ rfl
            have Xc16 := C2.out 16 _ rfl
            have hix : x.index.length ≤ 1 := stB_index (by have := K2.out.1; rw [hm2b] at this; simpa using this)
            have hB3 : w3.heap.size ≠ mb := by omega
            have three := rows_three (t := 64) (VV.out.gr G2.out) (L1.out.gr G2.out) (H1.out.gr G2.out) hB3
            have Three1 := Lib.hid three.1
            have Three2 := Lib.hid three.2
            clear three
            go_wp2_with fail
            refine (concatE_calls (· ≠ mb) _ _ x.index [x.value, x.low, x.high] ic _ _ (w3.heap.size + 1) ?_ ?_ ?_ ((I1.out.gr G2.out).gr (Gr.of_below _ (by go_grown))) ((I2.out.gr G2.out).gr (Gr.of_below _ (by go_grown))) (Three1.out.gr (Gr.of_below _ (bel_alloc _ _))) (Three2.out.gr (Gr.of_below _ (bel_alloc _ _))) (by simp; omega) (by simp)).mono ?_
            · simp [go_sem]
            · simp [go_sem]
            · simp
            rintro e w4 ⟨g4, cap4, rfl, hown4, hb4⟩
            have hbb := below2 (below2 (bel_alloc w3 _) (bel_alloc _ _)) hb4
            have M4 := Lib.hid (Has.below M2.out hbb)
            have G4 := Lib.hid (G2.out.trans (Gr.of_below (· ≠ mb) hbb))
            have C4 := Lib.hid (cells_gr C2.out (Gr.of_below (fun _ => True) hbb) (by omega) trivial)
            have Ex4 := Lib.hid ((((I2.out.gr G2.out).gr (Gr.of_below _ (bel_alloc w3 _))).append Three2.out).gr (Gr.of_below _ (below2 (bel_alloc _ _) hb4)))
            have hlen : x.index.length + [x.value, x.low, x.high].length = (x.index ++ [x.value, x.low, x.high]).length := by simp
            have hft := (full_tx Tq.out).1
            have E4x := E3x.out
            have hfl : (x.index ++ [x.value, x.low, x.high]).length ≤ 4 := by simp; omega
            rw [hlen] at hown4 ⊢
            have hmb4 : mb < w4.heap.size := by have := hbb.size; omega
            have hBX4 : BX < w4.heap.size := by have := hbb.size; omega
            have R4 := Lib.hid (RdK.of_own (ok := (· ≠ mb)) hown4 (by omega) (fun k hk => by have h := (hown4.lt k hk).1; simp at h; omega))
            clear Xc2 Xc3 Xc4 Xc5 Xc6 Xc7 Xc8 Xc9 Xc10 Xc11 Xc12 Xc13 Xc14 Xc15 Xc16
            clear hown4 hb4 hbb Three1 Three2 M2 G2 C2 E3x X2 hlen I1 I2
            generalize x.index ++ [x.value, x.low, x.high] = full at *
            have FT := Lib.hid hft
            have E5x := Lib.hid E4x
            clear hft E4x
            go_wp2_with fail
            go_loopw [61] (fun k U => ∃ (p : Nat) (mp : MS), k = .int .i64 p ∧ p ≤ full.length ∧ mEs full m2 = mEs (full.drop p) mp ∧ MSt U mb mp ∧ 0 ≤ mp.exprs ∧ mp.much = false ∧ Gr (· ≠ mb) w4 U) (fun k _ => full.length - (intOf k).toNat)
            case atStart => exact ⟨0, m2, rfl, by omega, by rw [List.drop_zero], M4.out, by omega, Hmu2.out, Gr.refl _ _⟩
            case round =>
              obtain ⟨p, mp, rfl, hp, hpe, hpm, hp0', hpmu, hpg⟩ := hrel
              have Ep := Lib.hid hpe
              have Mp := Lib.hid hpm
              have Gp := Lib.hid hpg
              have Mup := Lib.hid hpmu
              have hpx : mp.exprs ≤ 2048 := (not_much hpmu).2.2.1
              have hszp := hpg.size
              clear hpe hpm hpg hpmu
              by_cases hlt3 : p < full.length
              · obtain ⟨b9, off9, c9, A9, m9, hsl, hle9, hbl9, ho9, g0, g1, g2, g3, hx9⟩ := (Ex4.out.gr Gp.out).elem (R4.out.gr Gp.out) p hlt3
                injection hsl with hA hn' hc'
                injection hA with hA
                injection hA with hA hA2
                subst hA hA2 hc'
                rw [Nat.zero_add] at g0 g1 g2 g3
                have hd : full.drop p = full[p] :: full.drop (p + 1) := List.drop_eq_getElem_cons hlt3
                have hmE : mEs full m2 = if (mE1 full[p] mp).much = true then mE1 full[p] mp else mEs (full.drop (p + 1)) (mE1 full[p] mp) := by rw [Ep.out, hd, mEs]
                have htp := exsTx_get FT.out p hlt3
                have X9 := Lib.hid hx9
                have T9 := Lib.hid htp
                clear hx9 htp hn' ho9 hd hle9
                generalize full[p] = e9 at *
                have hn1 : ¬ g4 = wr.heap.size := by omega
                have hn2 : ¬ mb = wr.heap.size := by omega
                by_cases hop : e9.op = 0
                · have hE1 : mE1 e9 mp = mp := by unfold mE1; rw [if_pos hop]
                  rw [hE1] at hmE
                  rw [Mup.out] at hmE
                  simp only [if_neg (show ¬ (false = true) by simp)] at hmE
                  have HmE := Lib.hid hmE
                  clear hmE hE1
                  rw [hop] at g0
                  go_wp2_with fail
                  refine (much_calls mp mb _ (Has.below Mp.out (bel_alloc _ _))).mono ?_
                  rintro e w7 ⟨rfl, rfl⟩
                  rw [Mup.out]
                  go_wp2_with fail
                  go_roundw
                  case rel => exact ⟨p + 1, mp, by go_num, by omega, HmE.out, Has.below Mp.out (bel_alloc _ _), hp0', Mup.out, Gp.out.alloc _⟩
                  case measure => simp [intOf]; omega
                · have hop' : (e9.op != 0) = true := by simpa using hop
                  have hE1 : mE1 e9 mp = mEx e9 1 mp := by unfold mE1; rw [if_neg hop]
                  rw [hE1] at hmE
                  clear hE1
                  go_wp2_with fail
                  refine (mEx_calls e9 1 mp mb A9 m9 _ (Has.below Mp.out (bel_alloc _ _)) hp0' hpx (by omega) (by omega) T9.out (X9.out.gr (Gr.of_below _ (bel_alloc _ _)))).mono ?_
                  rintro e w7 ⟨rfl, hm7, hg7⟩
                  have M7 := Lib.hid hm7
                  have G7 := Lib.hid ((Gp.out.alloc _).trans hg7)
                  have hle7 := mEx_le e9 1 mp hp0' hpx
                  clear hm7 hg7
                  generalize mEx e9 1 mp = m7 at *
                  have HmE := Lib.hid hmE
                  clear hmE
                  go_wp2_with fail
                  refine (much_calls m7 mb _ M7.out).mono ?_
                  rintro e w8 ⟨rfl, rfl⟩
                  cases hmu : m7.much with
                  | true =>
                    have Hmu := Lib.hid hmu
                    clear hmu
                    go_wp2_with fail
                    try simp only [Exit.inBlock, Exit.then]
                    refine bodyPost_ret (results_none rfl _ _ _) rfl ?_
                    refine ⟨rfl, ?_, (Gw.out.trans G4.out).trans G7.out⟩
                    have e1 := HmE.out
                    rw [if_pos Hmu.out] at e1
                    have e2 := E5x.out
                    rw [e1, if_pos Hmu.out] at e2
                    rw [Eq.out, Hd.out, mSts, e2, if_pos Hmu.out]
                    exact M7.out
                  | false =>
                    have Hmu := Lib.hid hmu
                    clear hmu
                    go_wp2_with fail
                    go_roundw
                    case rel => exact ⟨p + 1, m7, by go_num, by omega, by rw [HmE.out, Hmu.out]; rfl, M7.out, hle7.1, Hmu.out, G7.out⟩
                    case measure => simp [intOf]; omega
              · obtain rfl : p = full.length := by omega
                have e0 := Ep.out
                rw [List.drop_length, mEs] at e0
                have e1 := E5x.out
                rw [e0, Mup.out] at e1
                simp only [if_neg (show ¬ (false = true) by simp)] at e1
                have E6x := Lib.hid e1
                have p6 : mp.points = m2.points := by rw [← e0]; exact mEs_points _ _
                have d6 : m2.deep ≤ mp.deep := by rw [← e0]; exact mEs_deep _ _
                have k6 := not_much Mup.out
                have C6 := Lib.hid (cells_gr C4.out Gp.out hBX4 hBm)
                have x15 := C6.out 15 _ rfl
                have x16 := C6.out 16 _ rfl
                clear e0 e1 Ep E5x
                have hsz1 := St.sz_parts x
                have k2 := K2.out
                have hdm : d ≤ 24 := by omega
                have hwd : wrap64 (d + 1) = d + 1 := by unfold wrap64; omega
                have hb3 := mBlk_bnd x.then_ (d + 1) mp (by omega) k6.2.1 hp0' k6.2.2.1 (by omega) (by omega)
                have hbq := mSt_bnd x d mq (by omega) (by omega) (by omega) (by omega) (by omega) (by omega)
                have hdq := mSt_deep x d mq
                have Bq := Lib.hid hbq
                have B3 := Lib.hid (show Bnd (d + 1) (mBlk x.then_ (d + 1) mp) from hb3)
                have Dq := Lib.hid hdq
                clear hb3 hbq hdq
                go_wp2_with fail
                refine (ih N (Nat.le_refl _) x.then_ (by omega) (d + 1) mp mb A5 c5 _ tc Mp.out (by omega) (by omega) hp0' (by omega) (by omega) (full_tx Tq.out).2.1 (T1.out.gr (G4.out.trans Gp.out)) (T2.out.gr (G4.out.trans Gp.out))).mono ?_
                rintro e w8 ⟨rfl, hm8, hg8⟩
                have M8 := Lib.hid hm8
                have G8 := Lib.hid ((G4.out.trans Gp.out).trans hg8)
                have C8 := cells_gr C6.out hg8 (by omega) hBm
                have y15 := C8 15 _ rfl
                have y16 := C8 16 _ rfl
                clear hm8 hg8 C8 x15 x16
                have e1 := E6x.out
                generalize mBlk x.then_ (d + 1) mp = m8 at *
                have b8 := B3.out
                have E7x := Lib.hid e1
                clear e1 E6x
                go_wp2_with fail
                refine (ih N (Nat.le_refl _) x.else_ (by omega) (d + 1) m8 mb A6 c6 _ ec M8.out b8.1 (by have := b8.2.1; omega) b8.2.2.1 (by omega) (by omega) (full_tx Tq.out).2.2 (E1.out.gr G8.out) (E2.out.gr G8.out)).mono ?_
                rintro e w9 ⟨rfl, hm9, hg9⟩
                have M9 := Lib.hid hm9
                have G9 := Lib.hid (G8.out.trans hg9)
                have e1 := E7x.out
                clear hm9 hg9 y15 y16 E7x
                generalize mBlk x.else_ (d + 1) m8 = m9 at *
                have E8x := Lib.hid e1
                clear e1
                go_wp2_with fail
                refine (much_calls m9 mb _ M9.out).mono ?_
                rintro e w10 ⟨rfl, rfl⟩
                cases hmu : m9.much with
                | true =>
                  have Hmu := Lib.hid hmu
                  clear hmu
                  go_wp2_with fail
                  try simp only [Exit.inBlock, Exit.then]
                  refine bodyPost_ret (results_none rfl _ _ _) rfl ?_
                  refine ⟨rfl, ?_, Gw.out.trans G9.out⟩
                  rw [Eq.out, Hd.out, mSts, E8x.out, if_pos Hmu.out]
                  exact M9.out
                | false =>
                  have Hmu := Lib.hid hmu
                  have k9 := not_much hmu
                  clear hmu
                  go_wp2_with fail
                  go_roundw
                  case rel =>
                    refine ⟨q + 1, m9, by go_num, by omega, ?_, M9.out, ?_, by omega, ?_, ?_, Gq.out.trans G9.out⟩
                    · rw [Eq.out, Hd.out, mSts, E8x.out, Hmu.out]; rfl
                    · rw [← E8x.out]; exact Bq.out.1
                    · rw [← E8x.out]; exact Bq.out.2.2.1
                    · have := Dq.out; rw [E8x.out] at this; omega
                  case measure => simp [intOf]; omega
      · obtain rfl : q = l.length := by omega
        go_wp2_with fail
        first | go_end0 | refine bodyPost_ret (results_none rfl _ _ _) rfl ?_
        refine ⟨rfl, ?_, Gw.out⟩
        rw [Eq.out, List.drop_length, mSts]
        exact Mq.out
theorem blk_all : ∀ N k, k ≤ N → BCalls k
  | 0, k, hk => by
    obtain rfl : k = 0 := by omega
    intro l hl
    omega
  | N + 1, k, hk => by
    rcases Nat.lt_or_ge k (N + 1) with h | h
    · exact blk_all N k (by omega)
    · obtain rfl : k = N + 1 := by omega
      exact block_round N (blk_all N)
theorem blk_calls (l : List St) (d : Int) (m : MS) (mb : Nat) (A : Option Addr) (c : Nat) (w : World) (cs : List Value) (hm : MSt w mb m) (h0 : 0 ≤ m.points) (h1 : m.points ≤ 500) (he : 0 ≤ m.exprs) (hd0 : 0 ≤ d) (hd1 : d ≤ 1000) (ht : stsTx l)
    (hv : RdK (· ≠ mb) w (.slice A l.length c) l.length 17 cs) (hx : StsC (· ≠ mb) w l cs) :
    Calls Tryz.prog 41 #[.pointer (some ⟨mb, 0, none⟩), .slice A l.length c, .int .i64 d] w
      fun r w' => r = .returned (.tuple #[]) ∧ MSt w' mb (mBlk l d m) ∧ Gr (· ≠ mb) w w' := blk_all _ _ (Nat.le_refl (stsSz l + 1)) l (by omega) d m mb A c w cs hm h0 h1 he hd0 hd1 ht hv hx
end

/-! Declarations; a program is right. -/
section
set_option linter.unusedVariables false
set_option linter.unusedSimpArgs false
open Go.RowKit

theorem deCells_get : ∀ (l : List De) (k : Nat) (hk : k < l.length) (j : Nat) (u : Value), (De.vals l[k])[j]? = some u → (deCells l)[k * 3 + j]? = some u
  | d :: r, 0, hk, j, u, h => by
    have hj : j < 3 := (List.getElem?_eq_some_iff.1 h).1
    show (De.vals d ++ deCells r)[0 * 3 + j]? = some u
    rw [Nat.zero_mul, Nat.zero_add, List.getElem?_append_left (show j < (De.vals d).length from hj)]
    exact h
  | d :: r, k + 1, hk, j, u, h => by
    show (De.vals d ++ deCells r)[(k + 1) * 3 + j]? = some u
    have hl : (De.vals d).length = 3 := rfl
    rw [List.getElem?_append_right (by omega), hl, show (k + 1) * 3 + j - 3 = k * 3 + j by omega]
    exact deCells_get r k (by simpa using hk) j u h
theorem de_elem {ok : Nat → Prop} {w : World} {v : Value} {l : List De} (hv : RdK ok w v l.length 3 (deCells l)) (k : Nat) (hk : k < l.length) :
    ∃ b off c, v = .slice (some ⟨b, off, none⟩) l.length c ∧ l.length ≤ c ∧ b < w.heap.size ∧ w.cell? ⟨b, off + k * 3, none⟩ = some (.string ⟨l[k].name.toArray⟩) ∧ w.cell? ⟨b, off + k * 3 + 1, none⟩ = some (.int .i64 l[k].ty) ∧ w.cell? ⟨b, off + k * 3 + 2, none⟩ = some (.int .i64 l[k].cells) := by
  obtain ⟨b, off, c, hsl, hle, ho, hlt, hc⟩ := hv.pos (by omega)
  refine ⟨b, off, c, hsl, hle, hlt, ?_, ?_, ?_⟩
  · exact hc _ _ (deCells_get l k hk 0 _ rfl)
  · exact hc _ _ (deCells_get l k hk 1 _ rfl)
  · exact hc _ _ (deCells_get l k hk 2 _ rfl)
def idxOfD (p : De → Bool) (l : List De) : Int := match l.findIdx? p with | some k => k | none => -1
theorem idxOfD_yes {p : De → Bool} {l : List De} {k : Nat} (hk : k < l.length) (h1 : ∀ j (hj : j < k), p (l[j]'(by omega)) = false) (h2 : p l[k] = true) : idxOfD p l = k := by
  have : l.findIdx? p = some k := by
    rw [List.findIdx?_eq_some_iff_getElem]
    exact ⟨hk, h2, fun j hj => by simpa using h1 j hj⟩
  simp [idxOfD, this]
theorem idxOfD_no {p : De → Bool} {l : List De} (h1 : ∀ j (hj : j < l.length), p l[j] = false) : idxOfD p l = -1 := by
  have : l.findIdx? p = none := by
    rw [List.findIdx?_eq_none_iff]
    intro x hx
    obtain ⟨j, hj, rfl⟩ := List.mem_iff_getElem.1 hx
    exact h1 j hj
  simp [idxOfD, this]
theorem idxOfD_ge (p : De → Bool) (l : List De) : decide (idxOfD p l ≥ 0) = l.any p := by
  cases h : l.findIdx? p with
  | none =>
    rw [List.findIdx?_eq_none_iff] at h
    have e : l.any p = false := by rw [List.any_eq_false]; intro x hx; simp [h x hx]
    simp [idxOfD, List.findIdx?_eq_none_iff.2 h, e]
  | some k =>
    obtain ⟨hk, h2, _⟩ := List.findIdx?_eq_some_iff_getElem.1 h
    have e : l.any p = true := List.any_eq_true.2 ⟨_, List.getElem_mem hk, h2⟩
    simp [idxOfD, h, e]
/-- What a function handed over answers of declarations. -/
def AsksD (g : FuncId) (p : De → Bool) : Prop := ∀ (e : De) (W : World), e.name.length ≤ maxLen →
  Calls Tryz.prog g #[.agg #[.string ⟨e.name.toArray⟩, .int .i64 e.ty, .int .i64 e.cells]] W fun r W' => r = .returned (.bool (p e)) ∧ Below W.heap.size W W'
theorem indexD_calls (g : FuncId) (p : De → Bool) (hg : AsksD g p) (hc : ∀ a W, (callFunc g a).run Tryz.prog W = .ok (.enter g a) W) (ok : Nat → Prop) (v : Value) (l : List De) (w : World) (hv : RdK ok w v l.length 3 (deCells l)) (ht : ∀ d ∈ l, d.name.length ≤ maxLen) :
    Calls Tryz.prog 80 #[v, .func (.func g) #[] #[]] w fun e w' => e = .returned (.int .i64 (idxOfD p l)) ∧ Below w.heap.size w w' := by
  have Hv := Lib.hid hv
  have Hg := Lib.hid hg
  have Ht := Lib.hid ht
  have hn := hv.le
  obtain ⟨A, c, rfl⟩ := hv.slice
  clear hv hg ht
  go_enter Tryz.func80, Tryz.ntmps80
  go_wp2_with fail
  go_loopw [8] (fun k W => ∃ q : Nat, k = .int .i64 q ∧ q ≤ l.length ∧ Below w.heap.size w W ∧ ∀ j (hj : j < q) (hq : q ≤ l.length), p (l[j]'(by omega)) = false) (fun k _ => l.length - (intOf k).toNat)
  case atStart => exact ⟨0, rfl, by omega, Below.refl _ _, fun j hj => by omega⟩
  case round =>
    obtain ⟨q, rfl, hq, hb, hno⟩ := hrel
    have Hb := Lib.hid hb
    have Hno := Lib.hid hno
    clear hb hno
    by_cases hlt : q < l.length
    · obtain ⟨b, off, c', hsl, hle, hbl, g0, g1, g2⟩ := de_elem Hv.out q hlt
      injection hsl with hA hn' hc'
      subst hA hc'
      rw [← (bcell Hb.out).1 b _ hbl] at g0 g1 g2
      clear hn'
      have htx := Ht.out _ (List.getElem_mem hlt)
      generalize hx : l[q] = x at *
      have Hx := Lib.hid hx
      clear hx
      go_wp2_with fail
      refine (Hg.out x _ htx).mono ?_
      rintro e w2 ⟨rfl, hb2⟩
      have Hb2 := Lib.hid (below2 Hb.out hb2)
      clear hb2
      generalize hp : p x = r
      have Hp := Lib.hid hp
      clear hp
      cases r with
      | true =>
        go_wp2_with fail
        go_ret
        refine ⟨?_, Hb2.out⟩
        rw [idxOfD_yes hlt (fun j hj => Hno.out j hj hq) (by rw [Hx.out]; exact Hp.out)]
        rfl
      | false =>
        go_wp2_with fail
        go_roundw
        case rel =>
          refine ⟨q + 1, by go_num, by omega, Hb2.out, fun j hj hq' => ?_⟩
          rcases Nat.lt_or_ge j q with h | h
          · exact Hno.out j h hq
          · obtain rfl : j = q := by omega
            rw [Hx.out]; exact Hp.out
        case measure => simp [intOf]; omega
    · obtain rfl : q = l.length := by omega
      go_wp2_with fail
      go_ret
      exact ⟨by rw [idxOfD_no fun j hj => Hno.out j hj (Nat.le_refl _)]; rfl, Hb.out⟩
theorem containsD_calls (g : FuncId) (p : De → Bool) (hg : AsksD g p) (hc : ∀ a W, (callFunc g a).run Tryz.prog W = .ok (.enter g a) W) (ok : Nat → Prop) (v : Value) (l : List De) (w : World) (hv : RdK ok w v l.length 3 (deCells l)) (ht : ∀ d ∈ l, d.name.length ≤ maxLen) :
    Calls Tryz.prog 40 #[v, .func (.func g) #[] #[]] w fun e w' => e = .returned (.bool (l.any p)) ∧ Below w.heap.size w w' := by
  have Hv := Lib.hid hv
  have Hg := Lib.hid hg
  have Ht := Lib.hid ht
  have Hc := Lib.hid hc
  obtain ⟨A, c, rfl⟩ := hv.slice
  clear hv hg hc ht
  go_enter Tryz.func40, Tryz.ntmps40
  go_wp2_with fail
  refine (indexD_calls g p Hg.out Hc.out ok _ l _ Hv.out Ht.out).mono ?_
  rintro e w2 ⟨rfl, hb2⟩
  have Hb2 := Lib.hid hb2
  clear hb2
  have hi := idxOfD_ge p l
  have Hi := Lib.hid hi
  clear hi
  generalize idxOfD p l = i at *
  go_wp2_with fail
  go_returns
  refine ⟨?_, Hb2.out⟩
  rw [← Hi.out]; rfl
def badD (d : De) : Bool := !isName d.name || decide (d.ty < 1) || decide (3 < d.ty) || decide (d.cells < 0) || decide (64 < d.cells)
theorem badD_asks : AsksD 38 badD := by
  rintro ⟨n, ty, c⟩ w ht
  have Ht := Lib.hid ht
  clear ht
  simp only
  have HB := Lib.hid (bel_alloc w (.cells #[.string ⟨n.toArray⟩, .int .i64 ty, .int .i64 c] 58))
  have hX : Has (w.alloc (.cells #[.string ⟨n.toArray⟩, .int .i64 ty, .int .i64 c] 58)) w.heap.size #[.string ⟨n.toArray⟩, .int .i64 ty, .int .i64 c] := Has.new _ _ _ rfl
  have X := Lib.hid hX
  clear hX
  go_enter Tryz.func38, Tryz.ntmps38
  go_wp2_with (first | (go_at_call 39; refine (isNameT_calls n _ Ht.out).mono ?_; rintro r w2 ⟨rfl, hb2⟩; have HB2 := Lib.hid (below2 HB.out hb2); have X2 := (X.out.below hb2); have y0 := X2.cell 0 _ rfl; have y1 : w2.cell? ⟨w.heap.size, 1, none⟩ = some (.int .i64 ty) := X2.cell 1 _ rfl; have y2 : w2.cell? ⟨w.heap.size, 2, none⟩ = some (.int .i64 c) := X2.cell 2 _ rfl; clear hb2 X2 y0) | fail)
  all_goals go_returns
  all_goals refine ⟨?_, HB2.out⟩
  all_goals (simp_all [badD]; try omega)
end

/-! A program is right. -/
section
set_option linter.unusedVariables false
set_option linter.unusedSimpArgs false
open Go.RowKit

def rightM (p : Pg) : MS := mBlk p.body 1 ⟨0, 0, 0, decide (24 < (p.decls.length : Int)) || p.decls.any badD⟩
def rightB (p : Pg) : Bool := !(rightM p).much
structure Pg.tx (p : Pg) : Prop where
  decls : ∀ d ∈ p.decls, d.name.length ≤ maxLen
  body : stsTx p.body
set_option maxRecDepth 20000 in
set_option maxHeartbeats 400000 in
theorem right_calls (p : Pg) (v : Value) (w : World) (hp : PgC (fun _ => True) w p v) (ht : p.tx) :
    Calls Tryz.prog 18 #[v] w fun e w' => e = .returned (.bool (rightB p)) ∧ Below w.heap.size w w' := by
  obtain ⟨dv, bv, bc, rfl, h1, h2, h3⟩ := hp
  obtain ⟨A1, c1, rfl⟩ := h1.slice
  obtain ⟨A2, c2, rfl⟩ := h2.slice
  have H1 := Lib.hid h1
  have H2 := Lib.hid h2
  have H3 := Lib.hid h3
  have Td := Lib.hid ht.decls
  have Tb := Lib.hid ht.body
  have e0 : rightB p = !(mBlk p.body 1 ⟨0, 0, 0, decide (24 < (p.decls.length : Int)) || p.decls.any badD⟩).much := rfl
  have E0 := Lib.hid e0
  clear h1 h2 h3 ht e0
  have fin : ∀ (W : World) (B : Nat) (bad : Bool), B = W.heap.size → bad = (decide (24 < (p.decls.length : Int)) || p.decls.any badD) → Below w.heap.size w W →
      Calls Tryz.prog 41 #[.pointer (some ⟨B, 0, none⟩), .slice A2 p.body.length c2, .int .i64 1] (W.alloc (.cells #[.int .i64 0, .int .i64 0, .int .i64 0, .bool bad] 86))
        fun r w' => r = .returned (.tuple #[]) ∧ MSt w' B (rightM p) ∧ Below w.heap.size w w' := by
    intro W B bad hB hbad hb
    subst hB
    have hs := hb.size
    refine (blk_calls p.body 1 ⟨0, 0, 0, bad⟩ W.heap.size A2 c2 _ bc (Has.new _ _ _ rfl) (by simp) (by simp) (by simp) (by omega) (by omega) Tb.out ((H2.out.mono (fun b hb' _ => by show b ≠ _; omega)).gr (Gr.of_below _ (below2 hb (bel_alloc _ _)))) ((H3.out.mono (fun b hb' _ => by show b ≠ _; omega)).gr (Gr.of_below _ (below2 hb (bel_alloc _ _))))).mono ?_
    rintro r w' ⟨rfl, hm, hg⟩
    refine ⟨rfl, by rw [hbad] at hm; exact hm, ((Gr.of_below (fun b => b < w.heap.size) (below2 hb (bel_alloc _ _))).later hg (fun b hb' _ => by show b ≠ _; omega)).below_of (fun k hk => hk)⟩
  have Fin := Lib.hid fin
  clear fin
  by_cases hd : (24 : Int) < p.decls.length
  · have hd1 : decide ((24 : Int) < p.decls.length) = true := by simp; omega
    have hd2 : decide ((p.decls.length : Int) > 24) = true := by simp; omega
    have Hd1 := Lib.hid hd1
    clear hd1
    go_enter Tryz.func18, Tryz.ntmps18
    go_wp2_with fail
    refine (Fin.out (w.alloc (.cells #[.slice A1 p.decls.length c1, .slice A2 p.body.length c2] 25)) (w.heap.size + 1) true (by simp) (by rw [Hd1.out, Bool.true_or]) (bel_alloc _ _)).mono ?_
    rintro e w3 ⟨rfl, hm, hb3⟩
    have M := Lib.hid hm
    have HB := Lib.hid hb3
    clear hm hb3
    go_wp2_with fail
    refine (much_calls _ _ _ M.out).mono ?_
    rintro e w4 ⟨rfl, rfl⟩
    go_wp2_with fail
    go_returns
    exact ⟨by rw [E0.out]; rfl, HB.out⟩
  · have hd1 : decide ((24 : Int) < p.decls.length) = false := by simp; omega
    have hd2 : decide ((p.decls.length : Int) > 24) = false := by simp; omega
    have Hd1 := Lib.hid hd1
    clear hd1
    go_enter Tryz.func18, Tryz.ntmps18
    go_wp2_with fail
    refine (containsD_calls _ _ badD_asks (fun a W => by kernel_rfl) (fun _ => True) _ p.decls _ (H1.out.gr (Gr.of_below _ (bel_alloc _ _))) Td.out).mono ?_
    rintro e w2 ⟨rfl, hb2⟩
    have HB2 := Lib.hid (below2 (bel_alloc w _) hb2)
    have hc1 := ((bcell hb2).1 w.heap.size 1 (by simp)).trans (World.cell?_alloc_new _ _ _ _)
    simp at hc1
    have hlt2 : w.heap.size < w2.heap.size := by have := hb2.size; simp at this; omega
    clear hb2
    go_wp2_with fail
    refine (Fin.out _ _ (p.decls.any badD) rfl (by rw [Hd1.out]; simp) HB2.out).mono ?_
    rintro e w3 ⟨rfl, hm, hb3⟩
    have M := Lib.hid hm
    have HB := Lib.hid hb3
    clear hm hb3
    go_wp2_with fail
    refine (much_calls _ _ _ M.out).mono ?_
    rintro e w4 ⟨rfl, rfl⟩
    go_wp2_with fail
    go_returns
    exact ⟨by rw [E0.out]; rfl, HB.out⟩
end
end Go.Proofs.YtokdcfehnhifhaaGreatDoor
