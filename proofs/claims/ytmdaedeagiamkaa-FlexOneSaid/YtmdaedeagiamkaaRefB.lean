/- The document's tokens (plumblineref04), more of it: numbers, signs, kinds. -/
import Derived.Test.YtmdaedeagiamkaaRefA
set_option linter.unusedVariables false
set_option linter.unusedSimpArgs false
namespace Go.Proofs.Ytmdaedeagiamkaa
open Go.RowKit

def isIntL (l : List UInt8) : Bool := decide (l ≠ []) && l.all fun c => isDi c.toNat
def isRealL (l : List UInt8) : Bool := match l.findIdx? (· == 46) with
  | some i => isIntL (l.take i) && isIntL (l.drop (i + 1))
  | none => false

theorem risInt_calls (s : ByteArray) (w : World) (hs : s.size ≤ maxLen) :
    Calls Try.prog 36 #[.string s] w fun e w' => e = .returned (.bool (isIntL s.data.toList)) ∧ w' = w := by
  unfold maxLen at hs
  have Hl := Lib.hid (size_list s)
  by_cases h0 : s.size = 0
  · obtain rfl := str_nil h0
    go_enter Try.func36, Try.ntmps36
    go_wp2_with fail
    go_loop [3] (fun i => i = .int .i64 0) (fun i => 0)
    case atStart => rfl
    case round =>
      obtain rfl := hrel
      go_wp2
      go_ret
      exact ⟨rfl, rfl⟩
  have h1 : 1 ≤ s.size := by omega
  have hne := str_ne h1
  have Hne := Lib.hid (str_ne' h1)
  go_enter Try.func36, Try.ntmps36
  go_wp2_with fail
  go_loop [3] (fun i => ∃ k : Nat, k ≤ s.size ∧ i = .int .i64 k ∧ ((s.data.toList.take k).all fun c => isDi c.toNat) = true) (fun i => s.size - (intOf i).toNat)
  case atStart => exact ⟨0, by omega, rfl, rfl⟩
  case round =>
    obtain ⟨k, hk, rfl, hall⟩ := hrel
    have Hall := Lib.hid hall
    clear hall
    by_cases hlt : k < s.size
    · have hta := take_at s k hlt
      have hyes : isDi ((s[k]'hlt).toNat : Int) = true → ((s.data.toList.take (k + 1)).all fun c => isDi c.toNat) = true := by
        intro h; rw [hta, List.all_append, Hall.out]; simp [h]
      have hno : isDi ((s[k]'hlt).toNat : Int) = false → isIntL s.data.toList = false := by
        intro h
        unfold isIntL
        rw [← List.take_append_drop (k + 1) s.data.toList, List.all_append, hta, List.all_append]
        simp [h]
      have Hy := Lib.hid hyes
      have Hn := Lib.hid hno
      clear hyes hno hta
      go_wp2_with fail
      refine (rdigit_calls _ _).mono ?_
      rintro e w ⟨rfl, rfl⟩
      generalize hb2 : isDi ((s[k]'hlt).toNat : Int) = b2 at *
      cases b2
      · have H := Lib.hid (Hn.out rfl)
        clear Hn Hy hb2
        go_wp2_with fail
        go_ret
        exact ⟨ret_bool (by rw [H.out]), rfl⟩
      · have H := Lib.hid (Hy.out rfl)
        clear Hn Hy hb2
        go_wp2_with fail
        go_round
        case rel => exact ⟨k + 1, by omega, by go_num, H.out⟩
        case measure => simp [intOf]; omega
    · obtain rfl : k = s.size := by omega
      go_wp2_with fail
      go_ret
      refine ⟨ret_bool ?_, rfl⟩
      have := Hall.out
      rw [← Hl.out, List.take_length] at this
      simp [isIntL, this, Hne.out]

theorem findIdx_at (l : List UInt8) (k : Nat) (hk : k < l.length) (hno : ((l.take k).any fun c => c == 46) = false) (h : l[k] = 46) : l.findIdx? (· == 46) = some k := by
  rw [List.findIdx?_eq_some_iff_getElem]
  refine ⟨hk, by simp [h], fun j hj => ?_⟩
  rw [List.any_eq_false] at hno
  have := hno (l[j]) (by rw [List.mem_take_iff_getElem]; exact ⟨j, by omega, rfl⟩)
  simpa using this
theorem findIdx_none (l : List UInt8) (hno : (l.any fun c => c == 46) = false) : l.findIdx? (· == 46) = none := by
  rw [List.findIdx?_eq_none_iff]
  intro x hx
  rw [List.any_eq_false] at hno
  simpa using hno x hx

theorem risReal_calls (s : ByteArray) (w : World) (hs : s.size ≤ maxLen) :
    Calls Try.prog 37 #[.string s] w fun e w' => e = .returned (.bool (isRealL s.data.toList)) ∧ w' = w := by
  unfold maxLen at hs
  have Hl := Lib.hid (size_list s)
  go_enter Try.func37, Try.ntmps37
  go_wp2_with fail
  go_loop [3] (fun i => ∃ k : Nat, k ≤ s.size ∧ i = .int .i64 k ∧ ((s.data.toList.take k).any fun c => c == 46) = false) (fun i => s.size - (intOf i).toNat)
  case atStart => exact ⟨0, by omega, rfl, rfl⟩
  case round =>
    obtain ⟨k, hk, rfl, hall⟩ := hrel
    have Hall := Lib.hid hall
    clear hall
    by_cases hlt : k < s.size
    · have hta := take_at s k hlt
      by_cases h46 : s[k]'hlt = 46
      · have hf : isRealL s.data.toList = (isIntL (s.data.toList.take k) && isIntL (s.data.toList.drop (k + 1))) := by
          unfold isRealL
          rw [findIdx_at s.data.toList k (by simpa using hlt) Hall.out h46]
        have Hf := Lib.hid hf
        have hc : (((s[k]'hlt).toNat : Int) == 46) = true := by rw [h46]; rfl
        have Ht := Lib.hid (extract_take s k)
        have Hd := Lib.hid (Lib.extract_to_end s (k + 1))
        clear hf hta h46
        have hk1 : (k : Int) + 1 ≤ (s.size : Int) := by omega
        go_wp2_with fail
        refine (risInt_calls _ _ (by unfold maxLen; simp; omega)).mono ?_
        rintro e w ⟨rfl, rfl⟩
        rw [Ht.out]
        generalize hb : isIntL (s.data.toList.take k) = b at *
        have Hb := Lib.hid hb
        clear hb
        cases b
        · go_wp2_with fail
          go_ret
          exact ⟨ret_bool (by simp [Hf.out, Hb.out]), rfl⟩
        · go_wp2_with fail
          refine (risInt_calls _ _ (by unfold maxLen; simp; omega)).mono ?_
          rintro e w ⟨rfl, rfl⟩
          rw [Hd.out]
          generalize hb : isIntL (s.data.toList.drop (k + 1)) = b at *
          have Hb2 := Lib.hid hb
          clear hb
          go_wp2_with fail
          go_ret
          exact ⟨ret_bool (by simp [Hf.out, Hb.out, Hb2.out]), rfl⟩
      · have hc : (((s[k]'hlt).toNat : Int) == 46) = false := by
          rw [beq_eq_false_iff_ne]
          intro h
          exact h46 (UInt8.toNat_inj.1 (by have : (s[k]'hlt).toNat = 46 := by omega
                                           rw [this]; rfl))
        have H : Hid (((s.data.toList.take (k + 1)).any fun c => c == 46) = false) := by
          show _ = false
          rw [hta, List.any_append, Hall.out]; simp [h46]
        clear hta h46
        go_wp2_with fail
        go_round
        case rel => exact ⟨k + 1, by omega, by go_num, H.out⟩
        case measure => simp [intOf]; omega
    · obtain rfl : k = s.size := by omega
      go_wp2_with fail
      go_ret
      refine ⟨ret_bool ?_, rfl⟩
      have := Hall.out
      rw [← Hl.out, List.take_length] at this
      simp [isRealL, findIdx_none _ this]

/-- The signs of the language. -/
def signsL : List (List UInt8) := [[43], [45], [42], [47], [40], [41], [91], [93], [123], [125], [59], [44], [61], [61, 61], [33, 61], [60], [60, 61], [62], [62, 61], [38, 38], [124, 124], [33]]
def signsB : List ByteArray := signsL.map fun l => ⟨l.toArray⟩
def isSign (l : List UInt8) : Bool := signsL.contains l
theorem signs_at : ∀ k, k < 22 → signsL.take (k + 1) = signsL.take k ++ [(signsB[k]?.getD ByteArray.empty).data.toList] := by
  decide +kernel
theorem signs_get (k : Nat) (h : k < 22) : ((signsB.map Value.string).toArray)[k]? = some (.string (signsB[k]?.getD ByteArray.empty)) := by
  have : k < signsB.length := h
  simp [List.getElem?_eq_getElem this]

theorem risSign_calls (s : ByteArray) (w : World) :
    Calls Try.prog 35 #[.string s] w fun e w' => e = .returned (.bool (isSign s.data.toList)) ∧ Below w.heap.size w w' := by
  go_enter Try.func35, Try.ntmps35
  go_wp2_with (first | (refine wpList_store_new _ _ _ rfl _ _ rfl _ (signsB.map Value.string).toArray rfl (by simp) rfl (by kernel_rfl) rfl (by decide +kernel) ?_))
  refine wp_named (fun W hb hc hz => ?_)
  have Hc := Lib.hid hc
  have Hb := Lib.hid hb
  clear hc hb hz
  go_loop [4] (fun i => ∃ k : Nat, k ≤ 22 ∧ i = .int .i64 k ∧ (signsL.take k).contains s.data.toList = false) (fun i => 22 - (intOf i).toNat)
  case atStart => exact ⟨0, by omega, rfl, rfl⟩
  case round =>
    obtain ⟨k, hk, rfl, hno⟩ := hrel
    have Hno := Lib.hid hno
    clear hno
    by_cases hlt : k < 22
    · have hcell : W.cell? ⟨w.heap.size, k, none⟩ = some (.string (signsB[k]?.getD ByteArray.empty)) :=
        Hc.out k _ (signs_get k hlt)
      have heq := toList_beq (signsB[k]?.getD ByteArray.empty) s
      have hwa := signs_at k hlt
      generalize signsB[k]?.getD ByteArray.empty = x at *
      by_cases hx : x.data.toList = s.data.toList
      · rw [decide_eq_true hx] at heq
        have hr : isSign s.data.toList = true := by
          unfold isSign
          rw [← List.take_append_drop (k + 1) signsL, hwa, hx]
          simp
        have Hr := Lib.hid hr
        clear hr hx hwa
        go_wp2_with fail
        go_ret
        exact ⟨ret_bool Hr.out.symm, Hb.out⟩
      · rw [decide_eq_false hx] at heq
        have hn : (signsL.take (k + 1)).contains s.data.toList = false := by
          have := Hno.out
          rw [hwa]
          simp at this ⊢
          exact ⟨this, fun h => hx (by rw [h])⟩
        have Hn := Lib.hid hn
        clear hn hx hwa
        go_wp2_with fail
        go_round
        case rel => exact ⟨k + 1, by omega, by go_num, Hn.out⟩
        case measure => simp [intOf]; omega
    · obtain rfl : k = 22 := by omega
      have hn : isSign s.data.toList = false := by
        have := Hno.out
        rw [List.take_of_length_le (by decide)] at this
        exact this
      have Hn := Lib.hid hn
      clear hn Hno
      go_wp2_with fail
      go_ret
      exact ⟨ret_bool Hn.out.symm, Hb.out⟩

/-- A text's kind; 0: it is no token. -/
def kindOf (l : List UInt8) : Int := if isWord l = true then 2 else if isName l = true then 1 else if isIntL l = true then 3 else if isRealL l = true then 4 else if isSign l = true then 5 else 0
theorem rkind_calls (s : ByteArray) (w : World) (hs : s.size ≤ maxLen) :
    Calls Try.prog 26 #[.string s] w fun e w' => e = .returned (.int .i64 (kindOf s.data.toList)) ∧ Below w.heap.size w w' := by
  have Hsz := Lib.hid hs
  clear hs
  go_enter Try.func26, Try.ntmps26
  go_wp2_with fail
  refine (risWord_calls _ _).mono ?_
  rintro e w1 ⟨rfl, hb1⟩
  have Hb := Lib.hid hb1
  clear hb1
  generalize h : isWord s.data.toList = b at *
  have H1 := Lib.hid h
  clear h
  cases b
  case true =>
    go_wp2_with fail
    go_ret
    exact ⟨ret_int (by simp [kindOf, H1.out]), Hb.out⟩
  go_wp2_with fail
  refine (risName_calls _ _ Hsz.out).mono ?_
  rintro e w2 ⟨rfl, hb2⟩
  replace Hb := Lib.hid (below2 Hb.out hb2)
  clear hb2
  generalize h : isName s.data.toList = b at *
  have H2 := Lib.hid h
  clear h
  cases b
  case true =>
    go_wp2_with fail
    go_ret
    exact ⟨ret_int (by simp [kindOf, H1.out, H2.out]), Hb.out⟩
  go_wp2_with fail
  refine (risInt_calls _ _ Hsz.out).mono ?_
  rintro e w2 ⟨rfl, rfl⟩
  generalize h : isIntL s.data.toList = b at *
  have H3 := Lib.hid h
  clear h
  cases b
  case true =>
    go_wp2_with fail
    go_ret
    exact ⟨ret_int (by simp [kindOf, H1.out, H2.out, H3.out]), Hb.out⟩
  go_wp2_with fail
  refine (risReal_calls _ _ Hsz.out).mono ?_
  rintro e w2 ⟨rfl, rfl⟩
  generalize h : isRealL s.data.toList = b at *
  have H4 := Lib.hid h
  clear h
  cases b
  case true =>
    go_wp2_with fail
    go_ret
    exact ⟨ret_int (by simp [kindOf, H1.out, H2.out, H3.out, H4.out]), Hb.out⟩
  go_wp2_with fail
  refine (risSign_calls _ _).mono ?_
  rintro e w3 ⟨rfl, hb3⟩
  replace Hb := Lib.hid (below2 Hb.out hb3)
  clear hb3
  generalize h : isSign s.data.toList = b at *
  have H5 := Lib.hid h
  clear h
  cases b <;>
  · go_wp2_with fail
    go_ret
    exact ⟨ret_int (by simp [kindOf, H1.out, H2.out, H3.out, H4.out, H5.out]), Hb.out⟩
end Go.Proofs.Ytmdaedeagiamkaa
