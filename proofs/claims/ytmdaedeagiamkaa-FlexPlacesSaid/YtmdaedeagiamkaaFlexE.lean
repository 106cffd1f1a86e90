/- IsName and Join of package flex. -/
import Derived.Test.YtmdaedeagiamkaaFlexC
set_option linter.unusedVariables false
set_option linter.unusedSimpArgs false
namespace Go.Proofs.Ytmdaedeagiamkaa
open Go.RowKit

def isName (l : List UInt8) : Bool := decide (l ≠ []) && decide (l.length ≤ 16) && isLe (hd0 l) && decide (tw inNm l = l.length) && !isWord l

theorem isName_calls (s : ByteArray) (w : World) (hs : s.size ≤ maxLen) :
    Calls Try.prog 14 #[.string s] w fun e w' => e = .returned (.bool (isName s.data.toList)) ∧ Below w.heap.size w w' := by
  have Hsz := Lib.hid hs
  unfold maxLen at hs
  by_cases h0 : s.size = 0
  · obtain rfl := str_nil h0
    go_enter Try.func14, Try.ntmps14
    go_wp2
    go_ret
    exact ⟨rfl, Below.refl _ _⟩
  · have h1 : 1 ≤ s.size := by omega
    have hne := str_ne h1
    have Hne := Lib.hid (str_ne' h1)
    have Hl : Hid (s.data.toList.length = s.size) := by simp [Hid]
    by_cases h16 : s.size ≤ 16
    · have hd : decide ((s.size : Int) ≤ 16) = true := by simp; omega
      go_enter Try.func14, Try.ntmps14
      go_wp2_with fail
      rw [head_wrap s h1]
      refine (classOf_calls _ _).mono ?_
      rintro e w ⟨rfl, rfl⟩
      generalize hr : hd0 s.data.toList = r at *
      have Hr := Lib.hid hr
      clear hr
      by_cases hL : isLe r = true
      · rw [clsOf_two hL]
        have HL := Lib.hid hL
        clear hL
        go_wp2_with fail
        refine (whileName_calls _ _ Hsz.out).mono ?_
        rintro e w2 ⟨rfl, hb2⟩
        have Hb2 := Lib.hid hb2
        clear hb2
        generalize hn : tw inNm s.data.toList = n at *
        have Hn := Lib.hid hn
        clear hn
        by_cases he : n = s.size
        · have hd2 : ((n : Int) == (s.size : Int)) = true := by simp; omega
          have He := Lib.hid he
          clear he
          go_wp2_with fail
          refine (isWord_calls _ _).mono ?_
          rintro e w3 ⟨rfl, hb3⟩
          have Hb := Lib.hid (below2 Hb2.out hb3)
          clear hb3
          generalize hw : isWord s.data.toList = b at *
          have Hw := Lib.hid hw
          clear hw
          go_wp2_with fail
          go_ret
          exact ⟨ret_bool (by simp [isName, Hne.out, Hr.out, HL.out, Hn.out, He.out, Hw.out, Hl.out, h16]), Hb.out⟩
        · have hd2 : ((n : Int) == (s.size : Int)) = false := by simp; omega
          have He := Lib.hid he
          clear he
          go_wp2_with fail
          go_ret
          exact ⟨ret_bool (by simp [isName, Hn.out, He.out, Hl.out]), Hb2.out⟩
      · have c2 := clsOf_ne_two hL
        have HL := Lib.hid hL
        clear hL
        generalize clsOf r = c at *
        go_wp2_with fail
        go_ret
        exact ⟨ret_bool (by simp [isName, Hr.out, HL.out]), Below.refl _ _⟩
    · have hd : decide ((s.size : Int) ≤ 16) = false := by simp; omega
      go_enter Try.func14, Try.ntmps14
      go_wp2_with fail
      go_ret
      exact ⟨ret_bool (by simp [isName, Hl.out, h16]), Below.refl _ _⟩

theorem tokCells_get (ts : List Tok) (k : Nat) (h : k < ts.length) (j : Nat) (hj : j < 3) : (tokCells ts)[k * 3 + j]? = (ts[k]).cells[j]? := by
  induction ts generalizing k with
  | nil => simp at h
  | cons t ts ih =>
    have h3 : t.cells.length = 3 := rfl
    cases k with
    | zero => simp [tokCells, List.getElem?_append, h3, hj]
    | succ k =>
      have := ih k (by simpa using h)
      rw [show (k + 1) * 3 + j = 3 + (k * 3 + j) by omega]
      simp only [tokCells, List.flatMap_cons, List.getElem_cons_succ]
      rw [List.getElem?_append_right (by omega), h3, Nat.add_sub_cancel_left]
      exact this
def textCells (ts : List Tok) : List Value := ts.map fun t => strV t.text
theorem strInfo : (Try.prog.info? 9).map (fun i => (i.zero, i.size, i.bytes)) = some (some (.string ⟨#[]⟩), 1, 16) := by kernel_rfl

theorem joinOf_calls (v : Value) (xs : List (List UInt8)) (sep : ByteArray) (w : World) (hv : RdAt w v xs.length 1 (xs.map strV)) (hlen : (Lib.join xs sep.data.toList).length ≤ 140737488355328) :
    Calls Try.prog 32 #[v, .string sep] w fun e w' => e = .returned (strV (Lib.join xs sep.data.toList)) ∧ Below w.heap.size w w' := by
  by_cases h0 : xs.length = 0
  · obtain rfl : xs = [] := List.eq_nil_of_length_eq_zero h0
    obtain ⟨A, c, rfl⟩ := hv.slice
    refine (Try.strings_Join_none A c sep w).mono ?_
    rintro e w1 ⟨rfl, rfl⟩
    exact ⟨rfl, Below.refl _ _⟩
  · obtain ⟨b, off, c, rfl, hle, hb, hc⟩ := hv.pos (by omega)
    have hm : (xs.map fun l => (⟨l.toArray⟩ : ByteArray)).map (·.data.toList) = xs := by
      rw [List.map_map]; simp [Function.comp_def]
    have := Try.strings_Join b off c (xs.map fun l => ⟨l.toArray⟩) sep w (fun j x hx => by
      rw [List.getElem?_map, Option.map_eq_some_iff] at hx
      obtain ⟨l, hl, rfl⟩ := hx
      exact hc j _ (by rw [List.getElem?_map, hl]; rfl)) hb (by simpa using hv.2.1) (by simpa using hle) (by rw [hm]; exact hlen)
    rw [hm] at this
    simpa using this
theorem join_calls (v : Value) (ts : List Tok) (w : World) (hv : RdAt w v ts.length 3 (tokCells ts)) (hn : ts.length ≤ 2048) (hlen : (Lib.join (ts.map (·.text)) [32]).length ≤ 140737488355328) :
    Calls Try.prog 19 #[v] w fun e w' => e = .returned (strV (Lib.join (ts.map (·.text)) [32])) ∧ Below w.heap.size w w' := by
  obtain ⟨A, c, rfl⟩ := hv.slice
  have Hv := Lib.hid hv
  have Hlen := Lib.hid hlen
  clear hv hlen
  obtain ⟨i0, hi, hz0, hz1, hz2⟩ := info_parts strInfo
  go_enter Try.func19, Try.ntmps19
  go_wp2_with fail
  go_loopw [3, 8] (fun v k W => ∃ (q : Nat), k = .int .i64 q ∧ q ≤ ts.length ∧ W.ownsRow w.heap.size 9 1 v q (textCells (ts.take q)) ∧ Below w.heap.size w W) (fun _ k _ => ts.length - (intOf k).toNat)
  case atStart => exact ⟨0, rfl, by omega, World.ownsRow_nil _ _ _ _, Below.refl _ _⟩
  case round =>
    obtain ⟨q, rfl, hq, hown, hb⟩ := hrel
    have Hown := Lib.hid hown
    have Hb := Lib.hid hb
    clear hown hb
    by_cases hlt : q < ts.length
    · obtain ⟨b, off, c', hsl, hle, hbl, hc⟩ := Hv.out.pos (by omega)
      injection hsl with hA hn' hc'
      subst hA hc'
      have g0 : wr.cell? ⟨b, off + q * 3, none⟩ = some (.int .i64 ts[q].kind) := by
        rw [(bcell Hb.out).1 b _ hbl]; exact hc (q * 3) _ (tokCells_get ts q hlt 0 (by omega))
      have g1 : wr.cell? ⟨b, off + q * 3 + 1, none⟩ = some (.string ⟨ts[q].text.toArray⟩) := by
        rw [(bcell Hb.out).1 b _ hbl]; exact hc (q * 3 + 1) _ (tokCells_get ts q hlt 1 (by omega))
      have g2 : wr.cell? ⟨b, off + q * 3 + 2, none⟩ = some (.int .i64 ts[q].at_) := by
        rw [(bcell Hb.out).1 b _ hbl]; exact hc (q * 3 + 2) _ (tokCells_get ts q hlt 2 (by omega))
      clear hc hn' hle
      obtain ⟨A3, c3, rfl⟩ := own_shape Hown.out
      have hbase := Hb.out.size
      go_wp2_with (first | (at_builtin; refine append_lit _ _ _ rfl _ _ 29 rfl w.heap.size i0 _ 1 16 Try.underlying29 hi hz0 hz1 hz2 rfl (by decide) _ _ _ rfl (Hown.out.alloc _) 1 _ rfl (by simp) rfl rfl (by omega) (by decide) (by simp; omega) (Hb.out.alloc hbase _) ?_; intro v' w4 hown4 hg4 hb4))
      have Hown4 := Lib.hid hown4
      have Hb4 := Lib.hid hb4
      clear hown4 hg4 hb4
      go_wp2_with fail
      go_roundw
      case rel =>
        refine ⟨q + 1, by go_num, by omega, ?_, Hb4.out⟩
        have := Hown4.out
        rw [List.take_succ_eq_append_getElem hlt, textCells, List.map_append]
        exact this
      case measure => simp [intOf]; omega
    · obtain rfl : q = ts.length := by omega
      rw [List.take_length] at Hown
      obtain ⟨A3, c3, rfl⟩ := own_shape Hown.out
      have hrd : RdAt wr (.slice A3 ts.length c3) (ts.map (·.text)).length 1 ((ts.map (·.text)).map strV) := by
        rw [List.length_map, List.map_map]
        exact RdAt.of_own Hown.out (by omega)
      have Hrd := Lib.hid hrd
      clear hrd
      go_wp2_with fail
      refine (joinOf_calls _ (ts.map (·.text)) _ _ Hrd.out Hlen.out).mono ?_
      rintro e w5 ⟨rfl, hb5⟩
      have Hb5 := Lib.hid (below2 Hb.out hb5)
      clear hb5
      go_wp2_with fail
      go_ret
      exact ⟨rfl, Hb5.out⟩
end Go.Proofs.Ytmdaedeagiamkaa
