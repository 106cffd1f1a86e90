/- Statements as a text, in plain words; the words of if and while. Statements are written. -/
import Derived.Test.YtokdcfehnhifhaaGreatDoorPrnF
import Derived.Test.YtokdcfehnhifhaaGreatDoorChk4
import Derived.Deep.CutRange
namespace Go.Proofs.YtokdcfehnhifhaaGreatDoor
/-! Statements as a text, in plain words; the words of if and while. -/
section
set_option linter.unusedVariables false
set_option linter.unusedSimpArgs false
open Go.RowKit

def idxT (l : List Ex) : List UInt8 := l.flatMap fun e => [91] ++ prE e ++ [93]
mutual
/-- A statement's lines, each begun with so many blanks. -/
def prS : St → List UInt8 → List UInt8
  | .mk d n ix v l h t e, ah => ah ++
    (if d = 1 then n ++ idxT ix ++ [32, 61, 32] ++ prE v ++ [59, 10]
     else if d = 2 then [114, 101, 97, 100, 32] ++ n ++ [32, 105, 110, 32, 91] ++ prE l ++ [44, 32] ++ prE h ++ [93, 59, 10]
     else (if d = 3 then [105, 102, 32, 40] else [119, 104, 105, 108, 101, 32, 40]) ++ prE v ++ [41, 32, 123, 10] ++ prSs t (ah ++ [32, 32]) ++
       (if e.isEmpty = true then [] else ah ++ [125, 32, 101, 108, 115, 101, 32, 123, 10] ++ prSs e (ah ++ [32, 32])) ++ ah ++ [125, 10])
def prSs : List St → List UInt8 → List UInt8
  | [], _ => []
  | s :: r, ah => prS s ah ++ prSs r ah
end
theorem prSs_append (ah : List UInt8) : ∀ a b : List St, prSs (a ++ b) ah = prSs a ah ++ prSs b ah
  | [], b => by simp [prSs]
  | s :: a, b => by simp only [List.cons_append, prSs, prSs_append ah a b, List.append_assoc]
theorem prSs_take (ah : List UInt8) {l : List St} {q : Nat} (h : q < l.length) : prSs (l.take (q + 1)) ah = prSs (l.take q) ah ++ prS l[q] ah := by
  rw [List.take_succ_eq_append_getElem h, prSs_append]
  simp [prSs]
theorem prSs_le (ah : List UInt8) (l : List St) (q : Nat) : (prSs (l.take q) ah).length ≤ (prSs l ah).length := by
  conv => rhs; rw [← List.take_append_drop q l, prSs_append, List.length_append]
  omega
theorem idxT_take {l : List Ex} {q : Nat} (h : q < l.length) : idxT (l.take (q + 1)) = idxT (l.take q) ++ ([91] ++ prE l[q] ++ [93]) := by
  rw [List.take_succ_eq_append_getElem h]
  simp only [idxT, List.flatMap_append, List.flatMap_cons, List.flatMap_nil, List.append_nil]
theorem idxT_le (l : List Ex) (q : Nat) : (idxT (l.take q)).length ≤ (idxT l).length := by
  have : idxT l = idxT (l.take q) ++ idxT (l.drop q) := by rw [idxT, idxT, idxT, ← List.flatMap_append, List.take_append_drop]
  rw [this, List.length_append]
  omega
/-- Each expression that is one is right. -/
def ExsOkN (l : List Ex) : Prop := ∀ e ∈ l, e.op ≠ 0 → e.okE
mutual
def St.okS : St → Prop
  | .mk d n ix v l h t e => stB (.mk d n ix v l h t e) = true ∧ ExsOkN (ix ++ [v, l, h]) ∧ stsOk t ∧ stsOk e
def stsOk : List St → Prop
  | [] => True
  | s :: r => s.okS ∧ stsOk r
end
theorem stsOk_get : ∀ {l : List St} (h : stsOk l) (k : Nat) (hk : k < l.length), l[k].okS
  | e :: r, h, 0, _ => by simp only [stsOk] at h; exact h.1
  | e :: r, h, k + 1, hk => by simp only [stsOk] at h; exact stsOk_get h.2 k (by simpa using hk)
theorem bound_op {e : Ex} (h : boundB e = true) : e.op ≠ 0 := by
  intro h0
  have : ¬ (e.op = 4 ∧ e.alone = true) := by omega
  simp only [boundB, if_neg this, h0] at h
  simp at h
theorem okS_cases {d : Int} {n : List UInt8} {ix : List Ex} {v l h : Ex} {t e : List St} (hs : (St.mk d n ix v l h t e).okS) :
    (d = 1 ∧ v.okE ∧ (∀ k (hk : k < ix.length), ix[k].okE) ∧ ix.length ≤ 1) ∨ (d = 2 ∧ l.okE ∧ h.okE) ∨ ((d = 3 ∨ d = 4) ∧ v.okE ∧ stsOk t ∧ stsOk e) := by
  simp only [St.okS] at hs
  obtain ⟨hb, hx, ht, he⟩ := hs
  unfold stB at hb
  split at hb
  · rename_i h1
    simp only [St.do_, St.index, St.low, St.high, valuedB, St.value, Bool.and_eq_true, Bool.not_eq_true', decide_eq_false_iff_not, decide_eq_true_eq] at hb
    refine Or.inl ⟨h1, hx v (by simp) (of_decide_eq_false hb.1.1.1.2.1), fun k hk => hx _ (by simp) ?_, by have := of_decide_eq_true hb.1.2; omega⟩
    have h2 := hb.2
    rw [List.any_eq_false] at h2
    have := h2 ix[k] (List.getElem_mem hk)
    simpa using this
  · split at hb
    · rename_i h2
      simp only [St.low, St.high, Bool.and_eq_true] at hb
      exact Or.inr (Or.inl ⟨h2, hx l (by simp) (bound_op hb.1.2), hx h (by simp) (bound_op hb.2)⟩)
    · split at hb
      · rename_i h3
        simp only [valuedB, St.value, Bool.and_eq_true, Bool.not_eq_true', decide_eq_false_iff_not] at hb
        exact Or.inr (Or.inr ⟨h3, hx v (by simp) (of_decide_eq_false hb.1.1.1.1), ht, he⟩)
      · cases hb
theorem run_insK {P : Program} (w : World) (mty kt et : TypeId) (clock r : Nat) (es : Array MapEntry) (d : TypeDesc) (k val : Value) (hm : P.underlying mty = some (.map kt et)) (hk : P.underlying kt = some d) (hik : MapKept.IsKey d k)
    (hr : r = w.heap.size) (hf : Instr.findNow d k es.toList 0 = some none) :
    (Instr.mapUpdate mty (.map (some r)) k val).run P (w.alloc (.map es clock)) = .ok () (w.alloc (.map (es.push { key := k, val := val, born := clock }) (clock + 1))) := by
  subst hr
  have hb : (w.alloc (.map es clock)).heap[w.heap.size]? = some (.map es clock) := by unfold World.alloc; simp
  have hc : (Instr.checkKey false 10000 kt k).run P (w.alloc (.map es clock)) = .ok () (w.alloc (.map es clock)) := MapKept.run_checkKey hk hik false 9999
  simp only [Instr.mapUpdate, Sem.run_bind, run_underlying hm, MapKept.run_getObj_map hb, hc, MapKept.run_findKey hk hf, MapKept.run_setObj_map _ hb, Result.andThen]
  have e : ∀ x y : Obj, (w.heap.push x).setIfInBounds w.heap.size y = w.heap.push y := fun x y => by
    apply Array.ext'
    simp [Array.setIfInBounds]
  show Result.ok () { w with heap := (w.heap.push _).setIfInBounds w.heap.size _ } = Result.ok () { w with heap := w.heap.push _ }
  rw [e]
def doEs1 : Array MapEntry := #[{ key := .int .i64 3, val := .string ⟨#[105, 102, 32, 40]⟩, born := 0 }]
def doEs2 : Array MapEntry := #[{ key := .int .i64 3, val := .string ⟨#[105, 102, 32, 40]⟩, born := 0 }, { key := .int .i64 4, val := .string ⟨#[119, 104, 105, 108, 101, 32, 40]⟩, born := 1 }]
theorem do_ins1 (w : World) (r : Nat) (hr : r = w.heap.size) :
    (Instr.mapUpdate 118 (.map (some r)) (.int .i64 3) (.string ⟨#[105, 102, 32, 40]⟩)).run Tryz.prog (w.alloc (.map #[] 0)) = .ok () (w.alloc (.map doEs1 1)) :=
  run_insK w _ 60 9 0 r #[] _ _ _ Tryz.underlying118 Tryz.underlying60 (by simp [MapKept.IsKey]) hr rfl
theorem do_ins2 (w : World) (r : Nat) (hr : r = w.heap.size) :
    (Instr.mapUpdate 118 (.map (some r)) (.int .i64 4) (.string ⟨#[119, 104, 105, 108, 101, 32, 40]⟩)).run Tryz.prog (w.alloc (.map doEs1 1)) = .ok () (w.alloc (.map doEs2 2)) :=
  run_insK w _ 60 9 1 r doEs1 _ _ _ Tryz.underlying118 Tryz.underlying60 (by simp [MapKept.IsKey]) hr rfl
def doWord (d : Int) : List UInt8 := if d = 3 then [105, 102, 32, 40] else [119, 104, 105, 108, 101, 32, 40]
theorem do_look (w : World) (d : Int) (r : Nat) (hr : r = w.heap.size) (hd : d = 3 ∨ d = 4) :
    (Instr.lookup 118 (.map (some r)) (.int .i64 d) false).run Tryz.prog (w.alloc (.map doEs2 2)) = .ok (strV (doWord d)) (w.alloc (.map doEs2 2)) := by
  subst hr
  have hb : (w.alloc (.map doEs2 2)).heap[w.heap.size]? = some (.map doEs2 2) := by unfold World.alloc; simp
  have hc : ∀ b, (Instr.checkKey b 10000 60 (.int .i64 d)).run Tryz.prog (w.alloc (.map doEs2 2)) = .ok () (w.alloc (.map doEs2 2)) := fun b => MapKept.run_checkKey Tryz.underlying60 (by simp [MapKept.IsKey]) b 9999
  have hz : ∀ w, (zeroValue 9).run Tryz.prog w = .ok (.string ⟨#[]⟩) w := fun w => by kernel_rfl
  rcases hd with rfl | rfl
  · have hk := MapKept.run_findKey (P := Tryz.prog) (w := w.alloc (.map doEs2 2)) (k := .int .i64 3) (l := doEs2.toList) (a := some (0, .string ⟨#[105, 102, 32, 40]⟩)) Tryz.underlying60 (by rfl)
    simp [Instr.lookup, run_underlying Tryz.underlying118, MapKept.run_getObj_map hb, hc, hk, hz, Result.andThen]
    rfl
  · have hk := MapKept.run_findKey (P := Tryz.prog) (w := w.alloc (.map doEs2 2)) (k := .int .i64 4) (l := doEs2.toList) (a := some (1, .string ⟨#[119, 104, 105, 108, 101, 32, 40]⟩)) Tryz.underlying60 (by rfl)
    simp [Instr.lookup, run_underlying Tryz.underlying118, MapKept.run_getObj_map hb, hc, hk, hz, Result.andThen]
    rfl
theorem wp_named_ko {P : Program} {c : Code} {Q : Exit → Act → World → Prop} {a : Act} {w : World} {cs : Array Value} {t : TypeId} (B pb : Nat) (ht : t ≠ 5) (hp : pb < w.heap.size)
    (h : ∀ W, Below w.heap.size w W → (∀ j u, cs[j]? = some u → W.cell? ⟨w.heap.size, j, none⟩ = some u) → W.heap.size = w.heap.size + 1 → KO B pb W w.heap.size → c.wp P Q a W) : c.wp P Q a (w.alloc (.cells cs t)) :=
  h _ ((Below.refl _ _).alloc (Nat.le_refl _) _) (fun j u hj => by rw [World.cell?_alloc_new]; exact hj) (by simp) (KO.new ht hp)
end

/-! Statements are written. -/
section
set_option linter.unusedVariables false
set_option linter.unusedSimpArgs false
open Go.RowKit

def BPCalls (N : Nat) : Prop := ∀ (l : List St), stsSz l < N → stsOk l → ∀ (B pb : Nat) (t ah : List UInt8) (A : Option Addr) (c : Nat) (w : World) (cs : List Value), PrS B pb t w →
  RdK (· < B) w (.slice A l.length c) l.length 17 cs → StsC (· < B) w l cs → t.length + (prSs l ah).length ≤ 140737488355328 →
  Calls Tryz.prog 33 #[.pointer (some ⟨pb, 0, none⟩), .slice A l.length c, .string ⟨ah.toArray⟩] w (WrEnd B pb t (prSs l ah) w)
theorem cat_blanks (ah : List UInt8) : ((⟨ah.toArray⟩ : ByteArray) ++ ⟨#[32, 32]⟩) = ⟨(ah ++ [32, 32]).toArray⟩ := string_ext (by simp)
set_option maxRecDepth 100000 in
set_option maxHeartbeats 8000000 in
theorem bp_step (N : Nat) (ih : ∀ k, k ≤ N → BPCalls k) : BPCalls (N + 1) := by
  intro l hN hok B pb t ah A c w cs hS hv hx hlen
  have hlt := hS.lt
  have hn := hv.le
  have S0 := Lib.hid hS
  have Hv := Lib.hid hv
  have Hx := Lib.hid hx
  have Hk := Lib.hid hok
  have HN := Lib.hid hN
  clear hS hv hx hok hN
  go_enter Tryz.func33, Tryz.ntmps33
  go_wp2_with fail
  go_loopw [12] (fun k V => ∃ q : Nat, k = .int .i64 q ∧ q ≤ l.length ∧ PrS B pb (t ++ prSs (l.take q) ah) V ∧ Pg1 B pb w V) (fun k _ => l.length - (intOf k).toNat)
  case atStart => exact ⟨0, rfl, by omega, by simpa [prSs] using S0.out, Pg1.refl _ _ _⟩
  case round =>
    obtain ⟨q, rfl, hq, hs, hg⟩ := hrel
    have hltr := hs.lt
    by_cases hlt2 : q < l.length
    · obtain ⟨b, off, c', a, hsl, hle, hbl, ho, hra, hst⟩ := (Hx.out.gr hg.low).elem (Hv.out.gr hg.low) q hlt2
      injection hsl with hA hn' hc'
      subst hA hc'
      have hszx : l[q].sz ≤ N := by
        have h1 := stsSz_get l q hlt2
        have h2 := HN.out
        omega
      have hokx := stsOk_get Hk.out q hlt2
      have htk := prSs_take ah hlt2
      have hl1 := prSs_le ah l (q + 1)
      rw [htk, List.length_append] at hl1
      have Hs := Lib.hid hs
      have Hg := Lib.hid hg
      have Htk := Lib.hid htk
      clear hn' htk hs hg
      generalize hxx : l[q] = x at *
      clear hxx
      generalize hT : t ++ prSs (l.take q) ah = T at *
      have HT := Lib.hid hT
      have hTl : T.length + (prS x ah).length ≤ 140737488355328 := by rw [← hT, List.length_append]; omega
      clear hT hl1
      have hal := hst.len
      obtain ⟨A1, c1, ic, A2, c2, A3, c3, A4, c4, A5, c5, tc, A6, c6, ec, rfl, i1, i2, hv1, hl1, hh1, ht1, ht2, he1, he2⟩ := hst.form
      have I1 := Lib.hid i1
      have I2 := Lib.hid i2
      have VV := Lib.hid hv1
      have L1 := Lib.hid hl1
      have H1 := Lib.hid hh1
      have T1 := Lib.hid ht1
      have T2 := Lib.hid ht2
      have E1 := Lib.hid he1
      have E2 := Lib.hid he2
      have RA := Lib.hid hra
      clear i1 i2 hv1 hl1 hh1 ht1 ht2 he1 he2 hst hra
      go_upto_region 3 with (first | (refine wpList_load_mid rfl _ _ rfl _ _ rfl _ _ RA.out Tryz.underlying66 rfl (by kernel_rfl) ?_) | (refine wpList_store_new _ _ _ rfl _ _ rfl _ _ rfl rfl rfl (by kernel_rfl) rfl (by kernel_rfl) ?_) | fail)
      refine wp_named_ko B pb (by decide) hltr (fun V hb hc hz hko => ?_)
      have hBV : wr.heap.size < V.heap.size := by omega
      clear hz
      obtain ⟨d, n, ix, v, lo, hi, th, el⟩ := x
      simp only [St.do_, St.name, St.index, St.value, St.low, St.high, St.then_, St.else_] at *
      have Bx := Lib.hid (show ∀ j u, ([.int .i64 d, .string ⟨n.toArray⟩, .slice A1 ix.length c1, .int .i64 v.op, .string ⟨v.text.toArray⟩, .int .i64 v.ty, .slice A2 v.kids.length c2, .int .i64 lo.op, .string ⟨lo.text.toArray⟩, .int .i64 lo.ty, .slice A3 lo.kids.length c3, .int .i64 hi.op, .string ⟨hi.text.toArray⟩, .int .i64 hi.ty, .slice A4 hi.kids.length c4, .slice A5 th.length c5, .slice A6 el.length c6] : List Value)[j]? = some u → V.cell? ⟨wr.heap.size, j, none⟩ = some u from fun j v hj => hc j v (by simpa using hj))
      have K := Lib.hid hko
      have S1 := Lib.hid (Hs.out.below hb)
      have G0 := Lib.hid (Hg.out.trans (Pg1.of_below B pb hb))
      have GV := Lib.hid (Pg1.of_below B pb hb)
      have G1 := Lib.hid (Pg1.refl B pb V)
      clear hb hc hko
      generalize hBe : wr.heap.size = BX at *
      clear hBe
      have hprs : prS (.mk d n ix v lo hi th el) ah = ah ++
        (if d = 1 then n ++ idxT ix ++ [32, 61, 32] ++ prE v ++ [59, 10]
         else if d = 2 then [114, 101, 97, 100, 32] ++ n ++ [32, 105, 110, 32, 91] ++ prE lo ++ [44, 32] ++ prE hi ++ [93, 59, 10]
         else (if d = 3 then [105, 102, 32, 40] else [119, 104, 105, 108, 101, 32, 40]) ++ prE v ++ [41, 32, 123, 10] ++ prSs th (ah ++ [32, 32]) ++
           (if el.isEmpty = true then [] else ah ++ [125, 32, 101, 108, 115, 101, 32, 123, 10] ++ prSs el (ah ++ [32, 32])) ++ ah ++ [125, 10]) := by rw [prS]
      rcases okS_cases hokx with ⟨rfl, kv, ki, kl⟩ | ⟨rfl, klo, khi⟩ | ⟨hd, kv, kt, ke⟩
      · rw [if_pos rfl] at hprs
        rw [hprs] at hTl
        simp only [List.length_append, List.length_cons, List.length_nil] at hTl
        have HP := Lib.hid hprs
        clear hprs hokx
        go_wp2_with fail
        refine (put_new B pb _ [ah] #[.string ⟨ah.toArray⟩] 1 _ _ S1.out rfl rfl (by decide) (by decide) rfl (by simp; omega)).mono ?_
        rintro e w2 ⟨rfl, hs, hg⟩
        have S2 := Lib.hid hs
        have G2 := Lib.hid (G1.out.trans hg)
        clear hs hg
        try clear Xc0 Xc1 Xc2 Xc3 Xc4 Xc5 Xc6 Xc7 Xc8 Xc9 Xc10 Xc11 Xc12 Xc13 Xc14 Xc15 Xc16
        have hX := cells_gr Bx.out G2.out hBV K.out
        have Xc0 := hX 0 _ rfl
        have Xc1 := hX 1 _ rfl
        have Xc2 := hX 2 _ rfl
        have Xc3 := hX 3 _ rfl
        have Xc4 := hX 4 _ rfl
        have Xc5 := hX 5 _ rfl
        have Xc6 := hX 6 _ rfl
        have Xc7 := hX 7 _ rfl
        have Xc8 := hX 8 _ rfl
        have Xc9 := hX 9 _ rfl
        have Xc10 := hX 10 _ rfl
        have Xc11 := hX 11 _ rfl
        have Xc12 := hX 12 _ rfl
        have Xc13 := hX 13 _ rfl
        have Xc14 := hX 14 _ rfl
        have Xc15 := hX 15 _ rfl
        have Xc16 := hX 16 _ rfl
        clear hX
        go_wp2_with fail
        refine (put_new B pb _ [n] #[.string ⟨n.toArray⟩] 1 _ _ S2.out rfl rfl (by decide) (by decide) rfl (by simp; omega)).mono ?_
        rintro e w3 ⟨rfl, hs, hg⟩
        have S3 := Lib.hid hs
        have G3 := Lib.hid (G2.out.trans hg)
        clear hs hg
        try clear Xc0 Xc1 Xc2 Xc3 Xc4 Xc5 Xc6 Xc7 Xc8 Xc9 Xc10 Xc11 Xc12 Xc13 Xc14 Xc15 Xc16
        have hX := cells_gr Bx.out G3.out hBV K.out
        have Xc0 := hX 0 _ rfl
        have Xc1 := hX 1 _ rfl
        have Xc2 := hX 2 _ rfl
        have Xc3 := hX 3 _ rfl
        have Xc4 := hX 4 _ rfl
        have Xc5 := hX 5 _ rfl
        have Xc6 := hX 6 _ rfl
        have Xc7 := hX 7 _ rfl
        have Xc8 := hX 8 _ rfl
        have Xc9 := hX 9 _ rfl
        have Xc10 := hX 10 _ rfl
        have Xc11 := hX 11 _ rfl
        have Xc12 := hX 12 _ rfl
        have Xc13 := hX 13 _ rfl
        have Xc14 := hX 14 _ rfl
        have Xc15 := hX 15 _ rfl
        have Xc16 := hX 16 _ rfl
        clear hX
        go_wp2_with fail
        go_loopw [71] (fun j W => ∃ p : Nat, j = .int .i64 p ∧ p ≤ ix.length ∧ PrS B pb (T ++ ah ++ n ++ idxT (ix.take p)) W ∧ Pg1 B pb V W) (fun j _ => ix.length - (intOf j).toNat)
        case atStart => exact ⟨0, rfl, by omega, by simpa [idxT] using S3.out, G3.out⟩
        case round =>
          obtain ⟨p, rfl, hp, hs4, hg4⟩ := hrel
          have hltw := hs4.lt
          clear Xc0 Xc1 Xc2 Xc3 Xc4 Xc5 Xc6 Xc7 Xc8 Xc9 Xc10 Xc11 Xc12 Xc13 Xc14 Xc15 Xc16
          by_cases hlt3 : p < ix.length
          · obtain ⟨b2, off2, cc, hsl, hle2, hkid⟩ := kid_at ((I1.out.gr GV.out.low).gr hg4.low) ((I2.out.gr GV.out.low).gr hg4.low) (by omega)
            injection hsl with hA hn' hc'
            subst hA hc'
            obtain ⟨A9, m9, hk1⟩ := hkid p hlt3
            have kx := ki p hlt3
            have htk := idxT_take hlt3
            have hl3 := idxT_le ix (p + 1)
            rw [htk] at hl3
            simp only [List.length_append, List.length_cons, List.length_nil] at hl3
            have Q := Lib.hid hk1
            have Htk2 := Lib.hid htk
            clear hkid hk1 hn' htk
            generalize ix[p] = x at *
            have Bq := Lib.hid (Has.new wr #[.int .i64 x.op, .string ⟨x.text.toArray⟩, .int .i64 x.ty, .slice A9 x.kids.length m9] 64 rfl)
            have Kq := Lib.hid (KO.new (B := B) (pb := pb) (w := wr) (cs := #[.int .i64 x.op, .string ⟨x.text.toArray⟩, .int .i64 x.ty, .slice A9 x.kids.length m9]) (t := 64) (by decide) hltw)
            have S4 := Lib.hid (hs4.alloc (.cells #[.int .i64 x.op, .string ⟨x.text.toArray⟩, .int .i64 x.ty, .slice A9 x.kids.length m9] 64))
            have G4 := Lib.hid hg4
            obtain ⟨g0, g1, g2, g3⟩ := Q.out.c4
            clear hs4 hg4
            go_wp2_with fail
            refine (put_new B pb _ [[91]] #[.string ⟨#[91]⟩] 1 _ _ S4.out rfl rfl (by decide) (by decide) (World.size_alloc _ _).symm (by simp; omega)).mono ?_
            rintro e w5 ⟨rfl, hs, hg⟩
            have S5 := Lib.hid hs
            have G5 := Lib.hid hg
            clear hs hg g0 g1 g2 g3
            obtain ⟨c0, c1', c2', c3', f0, f1, f2, f3, hz⟩ := (Bq.out.gr G5.out Kq.out).c4
            go_wp2_with fail
            refine (prE_calls x kx B pb _ A9 m9 _ S5.out ((Q.out.gr (Gr.of_below _ (bel_alloc _ _))).gr G5.out.low).ex (by simp; omega)).mono ?_
            rintro e w6 ⟨rfl, hs, hg⟩
            have S6 := Lib.hid hs
            have G6 := Lib.hid (G5.out.trans hg)
            clear hs hg c0 c1' c2' c3' f0 f1 f2 f3 hz
            go_wp2_with fail
            refine (put_new B pb _ [[93]] #[.string ⟨#[93]⟩] 1 _ _ S6.out rfl rfl (by decide) (by decide) rfl (by simp; omega)).mono ?_
            rintro e w7 ⟨rfl, hs, hg⟩
            have S7 := Lib.hid hs
            have G7 := Lib.hid (G6.out.trans hg)
            clear hs hg
            go_wp2_with fail
            go_roundw
            case rel => exact ⟨p + 1, by go_num, by omega, by rw [Htk2.out]; simpa using S7.out, G4.out.trans ((Pg1.of_below B pb (bel_alloc _ _)).trans G7.out)⟩
            case measure => simp [intOf]; omega
          · obtain rfl : p = ix.length := by omega
            rw [List.take_length] at hs4
            have S8 := Lib.hid hs4
            have G8 := Lib.hid hg4
            clear hs4 hg4
            have hX := cells_gr Bx.out G8.out hBV K.out
            have Xc0 := hX 0 _ rfl
            have Xc1 := hX 1 _ rfl
            have Xc2 := hX 2 _ rfl
            have Xc3 := hX 3 _ rfl
            have Xc4 := hX 4 _ rfl
            have Xc5 := hX 5 _ rfl
            have Xc6 := hX 6 _ rfl
            have Xc7 := hX 7 _ rfl
            have Xc8 := hX 8 _ rfl
            have Xc9 := hX 9 _ rfl
            have Xc10 := hX 10 _ rfl
            have Xc11 := hX 11 _ rfl
            have Xc12 := hX 12 _ rfl
            have Xc13 := hX 13 _ rfl
            have Xc14 := hX 14 _ rfl
            have Xc15 := hX 15 _ rfl
            have Xc16 := hX 16 _ rfl
            clear hX
            go_wp2_with fail
            refine (put_new B pb _ [[32, 61, 32]] #[.string ⟨#[32, 61, 32]⟩] 1 _ _ S8.out rfl rfl (by decide) (by decide) rfl (by simp; omega)).mono ?_
            rintro e w9 ⟨rfl, hs, hg⟩
            have S9 := Lib.hid hs
            have G9 := Lib.hid (G8.out.trans hg)
            clear hs hg
            try clear Xc0 Xc1 Xc2 Xc3 Xc4 Xc5 Xc6 Xc7 Xc8 Xc9 Xc10 Xc11 Xc12 Xc13 Xc14 Xc15 Xc16
            have hX := cells_gr Bx.out G9.out hBV K.out
            have Xc0 := hX 0 _ rfl
            have Xc1 := hX 1 _ rfl
            have Xc2 := hX 2 _ rfl
            have Xc3 := hX 3 _ rfl
            have Xc4 := hX 4 _ rfl
            have Xc5 := hX 5 _ rfl
            have Xc6 := hX 6 _ rfl
            have Xc7 := hX 7 _ rfl
            have Xc8 := hX 8 _ rfl
            have Xc9 := hX 9 _ rfl
            have Xc10 := hX 10 _ rfl
            have Xc11 := hX 11 _ rfl
            have Xc12 := hX 12 _ rfl
            have Xc13 := hX 13 _ rfl
            have Xc14 := hX 14 _ rfl
            have Xc15 := hX 15 _ rfl
            have Xc16 := hX 16 _ rfl
            clear hX
            go_wp2_with fail
            refine (prE_calls v kv B pb _ A2 c2 _ S9.out (((VV.out.gr GV.out.low)).gr G9.out.low) (by simp; omega)).mono ?_
            rintro e w10 ⟨rfl, hs, hg⟩
            have S10 := Lib.hid hs
            have G10 := Lib.hid (G9.out.trans hg)
            clear hs hg
            try clear Xc0 Xc1 Xc2 Xc3 Xc4 Xc5 Xc6 Xc7 Xc8 Xc9 Xc10 Xc11 Xc12 Xc13 Xc14 Xc15 Xc16
            have hX := cells_gr Bx.out G10.out hBV K.out
            have Xc0 := hX 0 _ rfl
            have Xc1 := hX 1 _ rfl
            have Xc2 := hX 2 _ rfl
            have Xc3 := hX 3 _ rfl
            have Xc4 := hX 4 _ rfl
            have Xc5 := hX 5 _ rfl
            have Xc6 := hX 6 _ rfl
            have Xc7 := hX 7 _ rfl
            have Xc8 := hX 8 _ rfl
            have Xc9 := hX 9 _ rfl
            have Xc10 := hX 10 _ rfl
            have Xc11 := hX 11 _ rfl
            have Xc12 := hX 12 _ rfl
            have Xc13 := hX 13 _ rfl
            have Xc14 := hX 14 _ rfl
            have Xc15 := hX 15 _ rfl
            have Xc16 := hX 16 _ rfl
            clear hX
            go_wp2_with fail
            refine (put_new B pb _ [[59, 10]] #[.string ⟨#[59, 10]⟩] 1 _ _ S10.out rfl rfl (by decide) (by decide) rfl (by simp; omega)).mono ?_
            rintro e w11 ⟨rfl, hs, hg⟩
            have S11 := Lib.hid hs
            have G11 := Lib.hid (G10.out.trans hg)
            clear hs hg
            try clear Xc0 Xc1 Xc2 Xc3 Xc4 Xc5 Xc6 Xc7 Xc8 Xc9 Xc10 Xc11 Xc12 Xc13 Xc14 Xc15 Xc16
            have hX := cells_gr Bx.out G11.out hBV K.out
            have Xc0 := hX 0 _ rfl
            have Xc1 := hX 1 _ rfl
            have Xc2 := hX 2 _ rfl
            have Xc3 := hX 3 _ rfl
            have Xc4 := hX 4 _ rfl
            have Xc5 := hX 5 _ rfl
            have Xc6 := hX 6 _ rfl
            have Xc7 := hX 7 _ rfl
            have Xc8 := hX 8 _ rfl
            have Xc9 := hX 9 _ rfl
            have Xc10 := hX 10 _ rfl
            have Xc11 := hX 11 _ rfl
            have Xc12 := hX 12 _ rfl
            have Xc13 := hX 13 _ rfl
            have Xc14 := hX 14 _ rfl
            have Xc15 := hX 15 _ rfl
            have Xc16 := hX 16 _ rfl
            clear hX
            go_wp2_with fail
            go_roundw
            case rel => exact ⟨q + 1, by go_num, by omega, by rw [Htk.out, ← List.append_assoc, HT.out, HP.out]; simpa using S11.out, G0.out.trans G11.out⟩
            case measure => simp [intOf]; omega
      · rw [if_neg (by decide), if_pos rfl] at hprs
        rw [hprs] at hTl
        simp only [List.length_append, List.length_cons, List.length_nil] at hTl
        have HP := Lib.hid hprs
        clear hprs hokx
        go_wp2_with fail
        refine (put_new B pb _ [ah] #[.string ⟨ah.toArray⟩] 1 _ _ S1.out rfl rfl (by decide) (by decide) rfl (by simp; omega)).mono ?_
        rintro e w2 ⟨rfl, hs, hg⟩
        have S2 := Lib.hid hs
        have G2 := Lib.hid (G1.out.trans hg)
        clear hs hg
        try clear Xc0 Xc1 Xc2 Xc3 Xc4 Xc5 Xc6 Xc7 Xc8 Xc9 Xc10 Xc11 Xc12 Xc13 Xc14 Xc15 Xc16
        have hX := cells_gr Bx.out G2.out hBV K.out
        have Xc0 := hX 0 _ rfl
        have Xc1 := hX 1 _ rfl
        have Xc2 := hX 2 _ rfl
        have Xc3 := hX 3 _ rfl
        have Xc4 := hX 4 _ rfl
        have Xc5 := hX 5 _ rfl
        have Xc6 := hX 6 _ rfl
        have Xc7 := hX 7 _ rfl
        have Xc8 := hX 8 _ rfl
        have Xc9 := hX 9 _ rfl
        have Xc10 := hX 10 _ rfl
        have Xc11 := hX 11 _ rfl
        have Xc12 := hX 12 _ rfl
        have Xc13 := hX 13 _ rfl
        have Xc14 := hX 14 _ rfl
        have Xc15 := hX 15 _ rfl
        have Xc16 := hX 16 _ rfl
        clear hX
        go_wp2_with fail
        refine (put_new B pb _ [[114, 101, 97, 100, 32], n, [32, 105, 110, 32, 91]] #[.string ⟨#[114, 101, 97, 100, 32]⟩, .string ⟨n.toArray⟩, .string ⟨#[32, 105, 110, 32, 91]⟩] 3 _ _ S2.out rfl rfl (by decide) (by decide) rfl (by simp; omega)).mono ?_
        rintro e w3 ⟨rfl, hs, hg⟩
        have S3 := Lib.hid hs
        have G3 := Lib.hid (G2.out.trans hg)
        clear hs hg
        try clear Xc0 Xc1 Xc2 Xc3 Xc4 Xc5 Xc6 Xc7 Xc8 Xc9 Xc10 Xc11 Xc12 Xc13 Xc14 Xc15 Xc16
        have hX := cells_gr Bx.out G3.out hBV K.out
        have Xc0 := hX 0 _ rfl
        have Xc1 := hX 1 _ rfl
        have Xc2 := hX 2 _ rfl
        have Xc3 := hX 3 _ rfl
        have Xc4 := hX 4 _ rfl
        have Xc5 := hX 5 _ rfl
        have Xc6 := hX 6 _ rfl
        have Xc7 := hX 7 _ rfl
        have Xc8 := hX 8 _ rfl
        have Xc9 := hX 9 _ rfl
        have Xc10 := hX 10 _ rfl
        have Xc11 := hX 11 _ rfl
        have Xc12 := hX 12 _ rfl
        have Xc13 := hX 13 _ rfl
        have Xc14 := hX 14 _ rfl
        have Xc15 := hX 15 _ rfl
        have Xc16 := hX 16 _ rfl
        clear hX
        go_wp2_with fail
        refine (prE_calls lo klo B pb _ A3 c3 _ S3.out (((L1.out.gr GV.out.low)).gr G3.out.low) (by simp; omega)).mono ?_
        rintro e w4 ⟨rfl, hs, hg⟩
        have S4 := Lib.hid hs
        have G4 := Lib.hid (G3.out.trans hg)
        clear hs hg
        try clear Xc0 Xc1 Xc2 Xc3 Xc4 Xc5 Xc6 Xc7 Xc8 Xc9 Xc10 Xc11 Xc12 Xc13 Xc14 Xc15 Xc16
        have hX := cells_gr Bx.out G4.out hBV K.out
        have Xc0 := hX 0 _ rfl
        have Xc1 := hX 1 _ rfl
        have Xc2 := hX 2 _ rfl
        have Xc3 := hX 3 _ rfl
        have Xc4 := hX 4 _ rfl
        have Xc5 := hX 5 _ rfl
        have Xc6 := hX 6 _ rfl
        have Xc7 := hX 7 _ rfl
        have Xc8 := hX 8 _ rfl
        have Xc9 := hX 9 _ rfl
        have Xc10 := hX 10 _ rfl
        have Xc11 := hX 11 _ rfl
        have Xc12 := hX 12 _ rfl
        have Xc13 := hX 13 _ rfl
        have Xc14 := hX 14 _ rfl
        have Xc15 := hX 15 _ rfl
        have Xc16 := hX 16 _ rfl
        clear hX
        go_wp2_with fail
        refine (put_new B pb _ [[44, 32]] #[.string ⟨#[44, 32]⟩] 1 _ _ S4.out rfl rfl (by decide) (by decide) rfl (by simp; omega)).mono ?_
        rintro e w5 ⟨rfl, hs, hg⟩
        have S5 := Lib.hid hs
        have G5 := Lib.hid (G4.out.trans hg)
        clear hs hg
        try clear Xc0 Xc1 Xc2 Xc3 Xc4 Xc5 Xc6 Xc7 Xc8 Xc9 Xc10 Xc11 Xc12 Xc13 Xc14 Xc15 Xc16
        have hX := cells_gr Bx.out G5.out hBV K.out
        have Xc0 := hX 0 _ rfl
        have Xc1 := hX 1 _ rfl
        have Xc2 := hX 2 _ rfl
        have Xc3 := hX 3 _ rfl
        have Xc4 := hX 4 _ rfl
        have Xc5 := hX 5 _ rfl
        have Xc6 := hX 6 _ rfl
        have Xc7 := hX 7 _ rfl
        have Xc8 := hX 8 _ rfl
        have Xc9 := hX 9 _ rfl
        have Xc10 := hX 10 _ rfl
        have Xc11 := hX 11 _ rfl
        have Xc12 := hX 12 _ rfl
        have Xc13 := hX 13 _ rfl
        have Xc14 := hX 14 _ rfl
        have Xc15 := hX 15 _ rfl
        have Xc16 := hX 16 _ rfl
        clear hX
        go_wp2_with fail
        refine (prE_calls hi khi B pb _ A4 c4 _ S5.out (((H1.out.gr GV.out.low)).gr G5.out.low) (by simp; omega)).mono ?_
        rintro e w6 ⟨rfl, hs, hg⟩
        have S6 := Lib.hid hs
        have G6 := Lib.hid (G5.out.trans hg)
        clear hs hg
        try clear Xc0 Xc1 Xc2 Xc3 Xc4 Xc5 Xc6 Xc7 Xc8 Xc9 Xc10 Xc11 Xc12 Xc13 Xc14 Xc15 Xc16
        have hX := cells_gr Bx.out G6.out hBV K.out
        have Xc0 := hX 0 _ rfl
        have Xc1 := hX 1 _ rfl
        have Xc2 := hX 2 _ rfl
        have Xc3 := hX 3 _ rfl
        have Xc4 := hX 4 _ rfl
        have Xc5 := hX 5 _ rfl
        have Xc6 := hX 6 _ rfl
        have Xc7 := hX 7 _ rfl
        have Xc8 := hX 8 _ rfl
        have Xc9 := hX 9 _ rfl
        have Xc10 := hX 10 _ rfl
        have Xc11 := hX 11 _ rfl
        have Xc12 := hX 12 _ rfl
        have Xc13 := hX 13 _ rfl
        have Xc14 := hX 14 _ rfl
        have Xc15 := hX 15 _ rfl
        have Xc16 := hX 16 _ rfl
        clear hX
        go_wp2_with fail
        refine (put_new B pb _ [[93, 59, 10]] #[.string ⟨#[93, 59, 10]⟩] 1 _ _ S6.out rfl rfl (by decide) (by decide) rfl (by simp; omega)).mono ?_
        rintro e w7 ⟨rfl, hs, hg⟩
        have S7 := Lib.hid hs
        have G7 := Lib.hid (G6.out.trans hg)
        clear hs hg
        try clear Xc0 Xc1 Xc2 Xc3 Xc4 Xc5 Xc6 Xc7 Xc8 Xc9 Xc10 Xc11 Xc12 Xc13 Xc14 Xc15 Xc16
        have hX := cells_gr Bx.out G7.out hBV K.out
        have Xc0 := hX 0 _ rfl
        have Xc1 := hX 1 _ rfl
        have Xc2 := hX 2 _ rfl
        have Xc3 := hX 3 _ rfl
        have Xc4 := hX 4 _ rfl
        have Xc5 := hX 5 _ rfl
        have Xc6 := hX 6 _ rfl
        have Xc7 := hX 7 _ rfl
        have Xc8 := hX 8 _ rfl
        have Xc9 := hX 9 _ rfl
        have Xc10 := hX 10 _ rfl
        have Xc11 := hX 11 _ rfl
        have Xc12 := hX 12 _ rfl
        have Xc13 := hX 13 _ rfl
        have Xc14 := hX 14 _ rfl
        have Xc15 := hX 15 _ rfl
        have Xc16 := hX 16 _ rfl
        clear hX
        go_wp2_with fail
        go_roundw
        case rel => exact ⟨q + 1, by go_num, by omega, by rw [Htk.out, ← List.append_assoc, HT.out, HP.out]; simpa using S7.out, G0.out.trans G7.out⟩
        case measure => simp [intOf]; omega
      · rw [if_neg (by omega), if_neg (by omega)] at hprs
        have hw : (if d = 3 then [105, 102, 32, 40] else [119, 104, 105, 108, 101, 32, 40]) = doWord d := rfl
        rw [hw] at hprs
        rw [hprs] at hTl
        simp only [List.length_append, List.length_cons, List.length_nil] at hTl
        have HP := Lib.hid hprs
        have HW := Lib.hid (fun W : World => do_look W d _ rfl hd)
        have hq1 : (d == 1) = false := by simp; omega
        have hq2 : (d == 2) = false := by simp; omega
        clear hprs hokx hw hd
        go_wp2_with fail
        refine (put_new B pb _ [ah] #[.string ⟨ah.toArray⟩] 1 _ _ S1.out rfl rfl (by decide) (by decide) rfl (by simp; omega)).mono ?_
        rintro e w2 ⟨rfl, hs, hg⟩
        have S2 := Lib.hid hs
        have G2 := Lib.hid (G1.out.trans hg)
        clear hs hg
        try clear Xc0 Xc1 Xc2 Xc3 Xc4 Xc5 Xc6 Xc7 Xc8 Xc9 Xc10 Xc11 Xc12 Xc13 Xc14 Xc15 Xc16
        have hX := cells_gr Bx.out G2.out hBV K.out
        have Xc0 := hX 0 _ rfl
        have Xc1 := hX 1 _ rfl
        have Xc2 := hX 2 _ rfl
        have Xc3 := hX 3 _ rfl
        have Xc4 := hX 4 _ rfl
        have Xc5 := hX 5 _ rfl
        have Xc6 := hX 6 _ rfl
        have Xc7 := hX 7 _ rfl
        have Xc8 := hX 8 _ rfl
        have Xc9 := hX 9 _ rfl
        have Xc10 := hX 10 _ rfl
        have Xc11 := hX 11 _ rfl
        have Xc12 := hX 12 _ rfl
        have Xc13 := hX 13 _ rfl
        have Xc14 := hX 14 _ rfl
        have Xc15 := hX 15 _ rfl
        have Xc16 := hX 16 _ rfl
        clear hX
        have hBw : BX < w2.heap.size := by have := G2.out.size; omega
        have hmm := @run_makeMap Tryz.prog
        have i0 := do_ins1 w2 _ rfl
        have i1 := do_ins2 w2 _ rfl
        have il := HW.out w2
        go_wp2_with fail
        clear hmm i0 i1 il
        refine (put_new B pb _ [doWord d] #[.string ⟨(doWord d).toArray⟩] 1 _ _ (S2.out.alloc _) rfl rfl (by decide) (by decide) (World.size_alloc _ _).symm (by simp; omega)).mono ?_
        rintro e w3 ⟨rfl, hs, hg⟩
        have S3 := Lib.hid hs
        have G3 := Lib.hid (G2.out.trans ((Pg1.of_below B pb (bel_alloc _ _)).trans hg))
        clear hs hg
        clear Xc0 Xc1 Xc2 Xc3 Xc4 Xc5 Xc6 Xc7 Xc8 Xc9 Xc10 Xc11 Xc12 Xc13 Xc14 Xc15 Xc16
        have hX := cells_gr Bx.out G3.out hBV K.out
        have Xc0 := hX 0 _ rfl
        have Xc1 := hX 1 _ rfl
        have Xc2 := hX 2 _ rfl
        have Xc3 := hX 3 _ rfl
        have Xc4 := hX 4 _ rfl
        have Xc5 := hX 5 _ rfl
        have Xc6 := hX 6 _ rfl
        have Xc7 := hX 7 _ rfl
        have Xc8 := hX 8 _ rfl
        have Xc9 := hX 9 _ rfl
        have Xc10 := hX 10 _ rfl
        have Xc11 := hX 11 _ rfl
        have Xc12 := hX 12 _ rfl
        have Xc13 := hX 13 _ rfl
        have Xc14 := hX 14 _ rfl
        have Xc15 := hX 15 _ rfl
        have Xc16 := hX 16 _ rfl
        clear hX
        go_wp2_with fail
        refine (prE_calls v kv B pb _ A2 c2 _ S3.out (((VV.out.gr GV.out.low)).gr G3.out.low) (by simp; omega)).mono ?_
        rintro e w4 ⟨rfl, hs, hg⟩
        have S4 := Lib.hid hs
        have G4 := Lib.hid (G3.out.trans hg)
        clear hs hg
        try clear Xc0 Xc1 Xc2 Xc3 Xc4 Xc5 Xc6 Xc7 Xc8 Xc9 Xc10 Xc11 Xc12 Xc13 Xc14 Xc15 Xc16
        have hX := cells_gr Bx.out G4.out hBV K.out
        have Xc0 := hX 0 _ rfl
        have Xc1 := hX 1 _ rfl
        have Xc2 := hX 2 _ rfl
        have Xc3 := hX 3 _ rfl
        have Xc4 := hX 4 _ rfl
        have Xc5 := hX 5 _ rfl
        have Xc6 := hX 6 _ rfl
        have Xc7 := hX 7 _ rfl
        have Xc8 := hX 8 _ rfl
        have Xc9 := hX 9 _ rfl
        have Xc10 := hX 10 _ rfl
        have Xc11 := hX 11 _ rfl
        have Xc12 := hX 12 _ rfl
        have Xc13 := hX 13 _ rfl
        have Xc14 := hX 14 _ rfl
        have Xc15 := hX 15 _ rfl
        have Xc16 := hX 16 _ rfl
        clear hX
        go_wp2_with fail
        refine (put_new B pb _ [[41, 32, 123, 10]] #[.string ⟨#[41, 32, 123, 10]⟩] 1 _ _ S4.out rfl rfl (by decide) (by decide) rfl (by simp; omega)).mono ?_
        rintro e w5 ⟨rfl, hs, hg⟩
        have S5 := Lib.hid hs
        have G5 := Lib.hid (G4.out.trans hg)
        clear hs hg
        try clear Xc0 Xc1 Xc2 Xc3 Xc4 Xc5 Xc6 Xc7 Xc8 Xc9 Xc10 Xc11 Xc12 Xc13 Xc14 Xc15 Xc16
        have hX := cells_gr Bx.out G5.out hBV K.out
        have Xc0 := hX 0 _ rfl
        have Xc1 := hX 1 _ rfl
        have Xc2 := hX 2 _ rfl
        have Xc3 := hX 3 _ rfl
        have Xc4 := hX 4 _ rfl
        have Xc5 := hX 5 _ rfl
        have Xc6 := hX 6 _ rfl
        have Xc7 := hX 7 _ rfl
        have Xc8 := hX 8 _ rfl
        have Xc9 := hX 9 _ rfl
        have Xc10 := hX 10 _ rfl
        have Xc11 := hX 11 _ rfl
        have Xc12 := hX 12 _ rfl
        have Xc13 := hX 13 _ rfl
        have Xc14 := hX 14 _ rfl
        have Xc15 := hX 15 _ rfl
        have Xc16 := hX 16 _ rfl
        clear hX
        go_wp2_with fail
        have hsz2 : stsSz th + stsSz el + 1 ≤ N := by
          have := St.sz_parts (.mk d n ix v lo hi th el)
          simp only [St.then_, St.else_] at this
          omega
        rw [show ((⟨ah.toArray⟩ : ByteArray) ++ ⟨#[32, 32]⟩) = ⟨(ah ++ [32, 32]).toArray⟩ from cat_blanks ah]
        refine (ih N (Nat.le_refl _) th (by omega) kt B pb _ (ah ++ [32, 32]) A5 c5 _ tc S5.out ((T1.out.gr GV.out.low).gr G5.out.low) ((T2.out.gr GV.out.low).gr G5.out.low) (by simp; omega)).mono ?_
        rintro e w6 ⟨rfl, hs, hg⟩
        have S6 := Lib.hid hs
        have G6 := Lib.hid (G5.out.trans hg)
        clear hs hg
        try clear Xc0 Xc1 Xc2 Xc3 Xc4 Xc5 Xc6 Xc7 Xc8 Xc9 Xc10 Xc11 Xc12 Xc13 Xc14 Xc15 Xc16
        have hX := cells_gr Bx.out G6.out hBV K.out
        have Xc0 := hX 0 _ rfl
        have Xc1 := hX 1 _ rfl
        have Xc2 := hX 2 _ rfl
        have Xc3 := hX 3 _ rfl
        have Xc4 := hX 4 _ rfl
        have Xc5 := hX 5 _ rfl
        have Xc6 := hX 6 _ rfl
        have Xc7 := hX 7 _ rfl
        have Xc8 := hX 8 _ rfl
        have Xc9 := hX 9 _ rfl
        have Xc10 := hX 10 _ rfl
        have Xc11 := hX 11 _ rfl
        have Xc12 := hX 12 _ rfl
        have Xc13 := hX 13 _ rfl
        have Xc14 := hX 14 _ rfl
        have Xc15 := hX 15 _ rfl
        have Xc16 := hX 16 _ rfl
        clear hX
        by_cases hel : el = []
        · subst hel
          simp only [List.length_nil] at *
          have hP2 := HP.out
          rw [if_pos (show ([] : List St).isEmpty = true from rfl)] at hP2
          simp only [if_pos (show ([] : List St).isEmpty = true from rfl), List.length_nil] at hTl
          have HP2 := Lib.hid hP2
          clear hP2 HP
          go_wp2_with fail
          refine (put_new B pb _ [ah, [125, 10]] #[.string ⟨ah.toArray⟩, .string ⟨#[125, 10]⟩] 2 _ _ S6.out rfl rfl (by decide) (by decide) rfl (by simp; omega)).mono ?_
          rintro e w7 ⟨rfl, hs, hg⟩
          have S7 := Lib.hid hs
          have G7 := Lib.hid (G6.out.trans hg)
          clear hs hg
          try clear Xc0 Xc1 Xc2 Xc3 Xc4 Xc5 Xc6 Xc7 Xc8 Xc9 Xc10 Xc11 Xc12 Xc13 Xc14 Xc15 Xc16
          have hX := cells_gr Bx.out G7.out hBV K.out
          have Xc0 := hX 0 _ rfl
          have Xc1 := hX 1 _ rfl
          have Xc2 := hX 2 _ rfl
          have Xc3 := hX 3 _ rfl
          have Xc4 := hX 4 _ rfl
          have Xc5 := hX 5 _ rfl
          have Xc6 := hX 6 _ rfl
          have Xc7 := hX 7 _ rfl
          have Xc8 := hX 8 _ rfl
          have Xc9 := hX 9 _ rfl
          have Xc10 := hX 10 _ rfl
          have Xc11 := hX 11 _ rfl
          have Xc12 := hX 12 _ rfl
          have Xc13 := hX 13 _ rfl
          have Xc14 := hX 14 _ rfl
          have Xc15 := hX 15 _ rfl
          have Xc16 := hX 16 _ rfl
          clear hX
          go_wp2_with fail
          go_roundw
          case rel => exact ⟨q + 1, by go_num, by omega, by rw [Htk.out, ← List.append_assoc, HT.out, HP2.out]; simpa using S7.out, G0.out.trans G7.out⟩
          case measure => simp [intOf]; omega
        · have hie : el.isEmpty = false := by cases el; exact absurd rfl hel; rfl
          have hpos : 0 < el.length := List.length_pos_iff.2 hel
          have hpos2 : (0 : Int) < el.length := by omega
          have hdp : decide ((0 : Int) < el.length) = true := by simpa using hpos
          have hdp2 : decide (0 < el.length) = true := by simpa using hpos
          have hP2 := HP.out
          rw [if_neg (by rw [hie]; simp)] at hP2
          rw [if_neg (by rw [hie]; simp)] at hTl
          simp only [List.length_append, List.length_cons, List.length_nil] at hTl
          have HP2 := Lib.hid hP2
          clear hP2 HP hel hie
          go_wp2_with fail
          refine (put_new B pb _ [ah, [125, 32, 101, 108, 115, 101, 32, 123, 10]] #[.string ⟨ah.toArray⟩, .string ⟨#[125, 32, 101, 108, 115, 101, 32, 123, 10]⟩] 2 _ _ S6.out rfl rfl (by decide) (by decide) rfl (by simp; omega)).mono ?_
          rintro e w7 ⟨rfl, hs, hg⟩
          have S7 := Lib.hid hs
          have G7 := Lib.hid (G6.out.trans hg)
          clear hs hg
          try clear Xc0 Xc1 Xc2 Xc3 Xc4 Xc5 Xc6 Xc7 Xc8 Xc9 Xc10 Xc11 Xc12 Xc13 Xc14 Xc15 Xc16
          have hX := cells_gr Bx.out G7.out hBV K.out
          have Xc0 := hX 0 _ rfl
          have Xc1 := hX 1 _ rfl
          have Xc2 := hX 2 _ rfl
          have Xc3 := hX 3 _ rfl
          have Xc4 := hX 4 _ rfl
          have Xc5 := hX 5 _ rfl
          have Xc6 := hX 6 _ rfl
          have Xc7 := hX 7 _ rfl
          have Xc8 := hX 8 _ rfl
          have Xc9 := hX 9 _ rfl
          have Xc10 := hX 10 _ rfl
          have Xc11 := hX 11 _ rfl
          have Xc12 := hX 12 _ rfl
          have Xc13 := hX 13 _ rfl
          have Xc14 := hX 14 _ rfl
          have Xc15 := hX 15 _ rfl
          have Xc16 := hX 16 _ rfl
          clear hX
          go_wp2_with fail
          rw [show ((⟨ah.toArray⟩ : ByteArray) ++ ⟨#[32, 32]⟩) = ⟨(ah ++ [32, 32]).toArray⟩ from cat_blanks ah]
          refine (ih N (Nat.le_refl _) el (by omega) ke B pb _ (ah ++ [32, 32]) A6 c6 _ ec S7.out ((E1.out.gr GV.out.low).gr G7.out.low) ((E2.out.gr GV.out.low).gr G7.out.low) (by simp; omega)).mono ?_
          rintro e w8 ⟨rfl, hs, hg⟩
          have S8 := Lib.hid hs
          have G8 := Lib.hid (G7.out.trans hg)
          clear hs hg
          try clear Xc0 Xc1 Xc2 Xc3 Xc4 Xc5 Xc6 Xc7 Xc8 Xc9 Xc10 Xc11 Xc12 Xc13 Xc14 Xc15 Xc16
          have hX := cells_gr Bx.out G8.out hBV K.out
          have Xc0 := hX 0 _ rfl
          have Xc1 := hX 1 _ rfl
          have Xc2 := hX 2 _ rfl
          have Xc3 := hX 3 _ rfl
          have Xc4 := hX 4 _ rfl
          have Xc5 := hX 5 _ rfl
          have Xc6 := hX 6 _ rfl
          have Xc7 := hX 7 _ rfl
          have Xc8 := hX 8 _ rfl
          have Xc9 := hX 9 _ rfl
          have Xc10 := hX 10 _ rfl
          have Xc11 := hX 11 _ rfl
          have Xc12 := hX 12 _ rfl
          have Xc13 := hX 13 _ rfl
          have Xc14 := hX 14 _ rfl
          have Xc15 := hX 15 _ rfl
          have Xc16 := hX 16 _ rfl
          clear hX
          go_wp2_with fail
          refine (put_new B pb _ [ah, [125, 10]] #[.string ⟨ah.toArray⟩, .string ⟨#[125, 10]⟩] 2 _ _ S8.out rfl rfl (by decide) (by decide) rfl (by simp; omega)).mono ?_
          rintro e w9 ⟨rfl, hs, hg⟩
          have S9 := Lib.hid hs
          have G9 := Lib.hid (G8.out.trans hg)
          clear hs hg
          try clear Xc0 Xc1 Xc2 Xc3 Xc4 Xc5 Xc6 Xc7 Xc8 Xc9 Xc10 Xc11 Xc12 Xc13 Xc14 Xc15 Xc16
          have hX := cells_gr Bx.out G9.out hBV K.out
          have Xc0 := hX 0 _ rfl
          have Xc1 := hX 1 _ rfl
          have Xc2 := hX 2 _ rfl
          have Xc3 := hX 3 _ rfl
          have Xc4 := hX 4 _ rfl
          have Xc5 := hX 5 _ rfl
          have Xc6 := hX 6 _ rfl
          have Xc7 := hX 7 _ rfl
          have Xc8 := hX 8 _ rfl
          have Xc9 := hX 9 _ rfl
          have Xc10 := hX 10 _ rfl
          have Xc11 := hX 11 _ rfl
          have Xc12 := hX 12 _ rfl
          have Xc13 := hX 13 _ rfl
          have Xc14 := hX 14 _ rfl
          have Xc15 := hX 15 _ rfl
          have Xc16 := hX 16 _ rfl
          clear hX
          go_wp2_with fail
          go_roundw
          case rel => exact ⟨q + 1, by go_num, by omega, by rw [Htk.out, ← List.append_assoc, HT.out, HP2.out]; simpa using S9.out, G0.out.trans G9.out⟩
          case measure => simp [intOf]; omega
    · obtain rfl : q = l.length := by omega
      rw [List.take_length] at hs
      have Hs := Lib.hid hs
      have Hg := Lib.hid hg
      clear hs
      clear hg
      go_wp2_with fail
      try simp only [Exit.inBlock, Exit.then]
      first | go_end0 | refine bodyPost_ret (results_none rfl _ _ _) rfl ?_
      exact ⟨rfl, Hs.out, Hg.out⟩
theorem bp_all : ∀ N k, k ≤ N → BPCalls k
  | 0, k, hk => by
    intro l hN
    omega
  | N + 1, k, hk => by
    by_cases h : k ≤ N
    · exact bp_all N k h
    · obtain rfl : k = N + 1 := by omega
      exact bp_step N (bp_all N)
theorem prSs_calls (l : List St) (hok : stsOk l) (B pb : Nat) (t ah : List UInt8) (A : Option Addr) (c : Nat) (w : World) (cs : List Value) (h : PrS B pb t w)
    (hv : RdK (· < B) w (.slice A l.length c) l.length 17 cs) (hx : StsC (· < B) w l cs) (hlen : t.length + (prSs l ah).length ≤ 140737488355328) :
    Calls Tryz.prog 33 #[.pointer (some ⟨pb, 0, none⟩), .slice A l.length c, .string ⟨ah.toArray⟩] w (WrEnd B pb t (prSs l ah) w) :=
  bp_all (stsSz l + 1) _ (Nat.le_refl _) l (by omega) hok B pb t ah A c w cs h hv hx hlen
end
end Go.Proofs.YtokdcfehnhifhaaGreatDoor
