/- The document's tokens (plumblineref04): what each function answers. The document's tokens (plumblineref04), more of it: numbers, signs, kinds. The document's scanner (plumblineref04): where a token ends, and all tokens. Plain: the scanner and the document's scanner answer alike. Plain: what is true of all tokens that the scanner tells. -/
import Derived.Test.YtokdcfehnhifhaaGreatDoorLex
namespace Go.Proofs.YtokdcfehnhifhaaGreatDoor
/-! The document's tokens (plumblineref04): what each function answers. -/
section
set_option linter.unusedVariables false
set_option linter.unusedSimpArgs false
open Go.RowKit

theorem rblank_calls (c : Int) (w : World) :
    Calls Tryz.prog 59 #[.int .u8 c] w fun e w' => e = .returned (.bool (isBl c)) ∧ w' = w := by
  go_enter Tryz.func59, Tryz.ntmps59
  go_wp2
  all_goals
    go_ret
    refine ⟨ret_bool ?_, rfl⟩
    unfold isBl
    rw [Bool.eq_iff_iff]
    simp
    omega
theorem rdigit_calls (c : Int) (w : World) :
    Calls Tryz.prog 87 #[.int .u8 c] w fun e w' => e = .returned (.bool (isDi c)) ∧ w' = w := by
  go_enter Tryz.func87, Tryz.ntmps87
  go_wp2
  all_goals
    go_ret
    exact ⟨ret_bool (by simp_all [isDi] <;> omega), rfl⟩
theorem rletter_calls (c : Int) (w : World) :
    Calls Tryz.prog 85 #[.int .u8 c] w fun e w' => e = .returned (.bool (isLe c)) ∧ w' = w := by
  go_enter Tryz.func85, Tryz.ntmps85
  go_wp2
  all_goals
    go_ret
    exact ⟨ret_bool (by simp_all [isLe] <;> omega), rfl⟩

theorem words_at (k : Nat) (h : k < 10) : wordsL.take (k + 1) = wordsL.take k ++ [(wordsB[k]?.getD ByteArray.empty).data.toList] := by
  rcases k with _ | _ | _ | _ | _ | _ | _ | _ | _ | _ | k <;> first | omega | rfl
theorem risWord_calls (s : ByteArray) (w : World) :
    Calls Tryz.prog 86 #[.string s] w fun e w' => e = .returned (.bool (isWord s.data.toList)) ∧ Below w.heap.size w w' := by
  go_enter Tryz.func86, Tryz.ntmps86
  go_wp2_with fail
  refine wp_named (fun W hb hc hz => ?_)
  have Hc := Lib.hid hc
  have Hb := Lib.hid hb
  clear hc hb hz
  go_loop [4] (fun i => ∃ k : Nat, k ≤ 10 ∧ i = .int .i64 k ∧ (wordsL.take k).contains s.data.toList = false) (fun i => 10 - (intOf i).toNat)
  case atStart => exact ⟨0, by omega, rfl, rfl⟩
  case round =>
    obtain ⟨k, hk, rfl, hno⟩ := hrel
    have Hno := Lib.hid hno
    clear hno
    by_cases hlt : k < 10
    · have hcell : W.cell? ⟨w.heap.size, k, none⟩ = some (.string (wordsB[k]?.getD ByteArray.empty)) :=
        Hc.out k _ (by rcases k with _ | _ | _ | _ | _ | _ | _ | _ | _ | _ | k <;> first | omega | rfl)
      have heq := toList_beq (wordsB[k]?.getD ByteArray.empty) s
      have hwa := words_at k hlt
      generalize wordsB[k]?.getD ByteArray.empty = x at *
      by_cases hx : x.data.toList = s.data.toList
      · rw [decide_eq_true hx] at heq
        have hr : isWord s.data.toList = true := by
          unfold isWord
          rw [← List.take_append_drop (k + 1) wordsL, hwa, hx]
          simp
        have Hr := Lib.hid hr
        clear hr hx hwa
        go_wp2_with fail
        go_ret
        exact ⟨ret_bool Hr.out.symm, Hb.out⟩
      · rw [decide_eq_false hx] at heq
        have hn : (wordsL.take (k + 1)).contains s.data.toList = false := by
          have := Hno.out
          rw [hwa]
          simp at this ⊢
          exact ⟨this, fun h => hx (by rw [h])⟩
        have Hn := Lib.hid hn
        clear hn hx hwa
        go_wp2_with fail
        go_round
        case rel => exact ⟨k + 1, by omega, by go_num, Hn.out⟩
        case measure => simp [intOf]; omega
    · obtain rfl : k = 10 := by omega
      go_wp2_with fail
      go_ret
      exact ⟨ret_bool Hno.out.symm, Hb.out⟩

theorem take_at (s : ByteArray) (k : Nat) (h : k < s.size) : s.data.toList.take (k + 1) = s.data.toList.take k ++ [s[k]] := by
  rw [List.take_succ_eq_append_getElem (by simpa using h)]; rfl
theorem tw_all (p : Int → Bool) (l : List UInt8) : decide (tw p l = l.length) = l.all fun c => p c.toNat := by
  induction l with
  | nil => rfl
  | cons c l ih =>
    cases h : p c.toNat with
    | true => rw [tw_yes p c l h, List.all_cons, h, Bool.true_and, ← ih]; simp
    | false => rw [tw_no p c l h, List.all_cons, h]; simp
theorem size_list (s : ByteArray) : s.data.toList.length = s.size := by simp
theorem hd0_at (s : ByteArray) (h1 : 0 < s.size) : ((s[0]'h1).toNat : Int) = hd0 s.data.toList := by
  obtain ⟨⟨l⟩⟩ := s
  cases l with
  | nil => simp [ByteArray.size] at h1
  | cons c l => rfl

theorem risName_calls (s : ByteArray) (w : World) (hs : s.size ≤ maxLen) :
    Calls Tryz.prog 45 #[.string s] w fun e w' => e = .returned (.bool (isName s.data.toList)) ∧ Below w.heap.size w w' := by
  have Hsz := Lib.hid hs
  unfold maxLen at hs
  have Hl := Lib.hid (size_list s)
  by_cases h0 : s.size = 0
  · obtain rfl := str_nil h0
    go_enter Tryz.func45, Tryz.ntmps45
    go_wp2
    go_ret
    exact ⟨rfl, Below.refl _ _⟩
  · have h1 : 1 ≤ s.size := by omega
    have hne := str_ne h1
    have Hne := Lib.hid (str_ne' h1)
    have Hhd := Lib.hid (hd0_at s h1)
    by_cases h16 : 16 < s.size
    · have hd : decide ((16 : Int) < (s.size : Int)) = true := by simp; omega
      go_enter Tryz.func45, Tryz.ntmps45
      go_wp2_with fail
      go_ret
      exact ⟨ret_bool (by simp [isName, Hl.out]; omega), Below.refl _ _⟩
    · have hd : decide ((16 : Int) < (s.size : Int)) = false := by simp; omega
      go_enter Tryz.func45, Tryz.ntmps45
      go_wp2_with fail
      rw [Hhd.out]
      refine (rletter_calls _ _).mono ?_
      rintro e w ⟨rfl, rfl⟩
      generalize hL : isLe (hd0 s.data.toList) = b at *
      have HL := Lib.hid hL
      clear hL
      cases b
      · go_wp2_with fail
        go_ret
        exact ⟨ret_bool (by simp [isName, HL.out]), Below.refl _ _⟩
      · go_wp2_with fail
        refine (risWord_calls _ _).mono ?_
        rintro e w1 ⟨rfl, hb1⟩
        have Hb1 := Lib.hid hb1
        clear hb1
        generalize hW : isWord s.data.toList = b at *
        have HW := Lib.hid hW
        clear hW
        cases b
        · have hfin : isName s.data.toList = s.data.toList.all fun c => inNm c.toNat := by
            rw [← tw_all]; simp [isName, HL.out, HW.out, Hne.out, Hl.out, Nat.not_lt.1 h16]
          have Hf := Lib.hid hfin
          clear hfin
          go_wp2_with fail
          go_loop [3] (fun i => ∃ k : Nat, k ≤ s.size ∧ i = .int .i64 k ∧ ((s.data.toList.take k).all fun c => inNm c.toNat) = true) (fun i => s.size - (intOf i).toNat)
          case atStart => exact ⟨0, by omega, rfl, rfl⟩
          case round =>
            obtain ⟨k, hk, rfl, hall⟩ := hrel
            have Hall := Lib.hid hall
            clear hall
            by_cases hlt : k < s.size
            · have hta := take_at s k hlt
              have hyes : inNm ((s[k]'hlt).toNat : Int) = true → ((s.data.toList.take (k + 1)).all fun c => inNm c.toNat) = true := by
                intro h; rw [hta, List.all_append, Hall.out]; simp [h]
              have hno : inNm ((s[k]'hlt).toNat : Int) = false → (s.data.toList.all fun c => inNm c.toNat) = false := by
                intro h
                rw [← List.take_append_drop (k + 1) s.data.toList, List.all_append, hta, List.all_append]
                simp [h]
              have Hy := Lib.hid hyes
              have Hn := Lib.hid hno
              clear hyes hno hta
              go_wp2_with fail
              refine (rletter_calls _ _).mono ?_
              rintro e w ⟨rfl, rfl⟩
              generalize hb1 : isLe ((s[k]'hlt).toNat : Int) = b1 at *
              have Hb1' := Lib.hid hb1
              clear hb1
              cases b1
              · go_wp2_with fail
                refine (rdigit_calls _ _).mono ?_
                rintro e w ⟨rfl, rfl⟩
                generalize hb2 : isDi ((s[k]'hlt).toNat : Int) = b2 at *
                have Hb2' := Lib.hid hb2
                clear hb2
                cases b2
                · by_cases h95 : ((s[k]'hlt).toNat : Int) = 95
                  · have hc1 : (((s[k]'hlt).toNat : Int) != 95) = false := by simp [h95]
                    have h := Hy.out (by rw [inNm, Hb1'.out, Hb2'.out, h95]; rfl)
                    have H := Lib.hid h
                    clear h h95
                    go_wp2_with fail
                    go_round
                    case rel => exact ⟨k + 1, by omega, by go_num, H.out⟩
                    case measure => simp [intOf]; omega
                  · have hc1 : (((s[k]'hlt).toNat : Int) != 95) = true := by simp [h95]
                    have h := Hn.out (by rw [inNm, Hb1'.out, Hb2'.out]; simp [h95])
                    have H := Lib.hid h
                    clear h h95
                    go_wp2_with fail
                    go_ret
                    exact ⟨ret_bool (by rw [Hf.out, H.out]), Hb1.out⟩
                · have h := Hy.out (by rw [inNm, Hb1'.out, Hb2'.out]; rfl)
                  have H := Lib.hid h
                  clear h
                  go_wp2_with fail
                  go_round
                  case rel => exact ⟨k + 1, by omega, by go_num, H.out⟩
                  case measure => simp [intOf]; omega
              · have h := Hy.out (by rw [inNm, Hb1'.out]; rfl)
                have H := Lib.hid h
                clear h
                go_wp2_with fail
                go_round
                case rel => exact ⟨k + 1, by omega, by go_num, H.out⟩
                case measure => simp [intOf]; omega
            · obtain rfl : k = s.size := by omega
              go_wp2_with fail
              go_ret
              refine ⟨ret_bool ?_, Hb1.out⟩
              have := Hall.out
              rw [← Hl.out, List.take_length] at this
              rw [Hf.out, this]
        · go_wp2_with fail
          go_ret
          exact ⟨ret_bool (by simp [isName, HW.out]), Hb1.out⟩
end

/-! The document's tokens (plumblineref04), more of it: numbers, signs, kinds. -/
section
set_option linter.unusedVariables false
set_option linter.unusedSimpArgs false
open Go.RowKit

def isIntL (l : List UInt8) : Bool := decide (l ≠ []) && l.all fun c => isDi c.toNat
def isRealL (l : List UInt8) : Bool := match l.findIdx? (· == 46) with
  | some i => isIntL (l.take i) && isIntL (l.drop (i + 1))
  | none => false

theorem risInt_calls (s : ByteArray) (w : World) (hs : s.size ≤ maxLen) :
    Calls Tryz.prog 107 #[.string s] w fun e w' => e = .returned (.bool (isIntL s.data.toList)) ∧ w' = w := by
  unfold maxLen at hs
  have Hl := Lib.hid (size_list s)
  by_cases h0 : s.size = 0
  · obtain rfl := str_nil h0
    go_enter Tryz.func107, Tryz.ntmps107
    go_wp2_with fail
    go_loop [3] (fun i => i = .int .i64 0) (fun i => 0)
    case atStart => rfl
    case round =>
      obtain rfl := hrel
      go_wp2
      go_ret
      exact ⟨rfl, rfl⟩
  have h1 : 1 ≤ s.size := by omega
  have hne := str_ne h1
  have Hne := Lib.hid (str_ne' h1)
  go_enter Tryz.func107, Tryz.ntmps107
  go_wp2_with fail
  go_loop [3] (fun i => ∃ k : Nat, k ≤ s.size ∧ i = .int .i64 k ∧ ((s.data.toList.take k).all fun c => isDi c.toNat) = true) (fun i => s.size - (intOf i).toNat)
  case atStart => exact ⟨0, by omega, rfl, rfl⟩
  case round =>
    obtain ⟨k, hk, rfl, hall⟩ := hrel
    have Hall := Lib.hid hall
    clear hall
    by_cases hlt : k < s.size
    · have hta := take_at s k hlt
      have hyes : isDi ((s[k]'hlt).toNat : Int) = true → ((s.data.toList.take (k + 1)).all fun c => isDi c.toNat) = true := by
        intro h; rw [hta, List.all_append, Hall.out]; simp [h]
      have hno : isDi ((s[k]'hlt).toNat : Int) = false → isIntL s.data.toList = false := by
        intro h
        unfold isIntL
        rw [← List.take_append_drop (k + 1) s.data.toList, List.all_append, hta, List.all_append]
        simp [h]
      have Hy := Lib.hid hyes
      have Hn := Lib.hid hno
      clear hyes hno hta
      go_wp2_with fail
      refine (rdigit_calls _ _).mono ?_
      rintro e w ⟨rfl, rfl⟩
      generalize hb2 : isDi ((s[k]'hlt).toNat : Int) = b2 at *
      cases b2
      · have H := Lib.hid (Hn.out rfl)
        clear Hn Hy hb2
        go_wp2_with fail
        go_ret
        exact ⟨ret_bool (by rw [H.out]), rfl⟩
      · have H := Lib.hid (Hy.out rfl)
        clear Hn Hy hb2
        go_wp2_with fail
        go_round
        case rel => exact ⟨k + 1, by omega, by go_num, H.out⟩
        case measure => simp [intOf]; omega
    · obtain rfl : k = s.size := by omega
      go_wp2_with fail
      go_ret
      refine ⟨ret_bool ?_, rfl⟩
      have := Hall.out
      rw [← Hl.out, List.take_length] at this
      simp [isIntL, this, Hne.out]

theorem findIdx_at (l : List UInt8) (k : Nat) (hk : k < l.length) (hno : ((l.take k).any fun c => c == 46) = false) (h : l[k] = 46) : l.findIdx? (· == 46) = some k := by
  rw [List.findIdx?_eq_some_iff_getElem]
  refine ⟨hk, by simp [h], fun j hj => ?_⟩
  rw [List.any_eq_false] at hno
  have := hno (l[j]) (by rw [List.mem_take_iff_getElem]; exact ⟨j, by omega, rfl⟩)
  simpa using this
theorem findIdx_none (l : List UInt8) (hno : (l.any fun c => c == 46) = false) : l.findIdx? (· == 46) = none := by
  rw [List.findIdx?_eq_none_iff]
  intro x hx
  rw [List.any_eq_false] at hno
  simpa using hno x hx

theorem risReal_calls (s : ByteArray) (w : World) (hs : s.size ≤ maxLen) :
    Calls Tryz.prog 108 #[.string s] w fun e w' => e = .returned (.bool (isRealL s.data.toList)) ∧ w' = w := by
  unfold maxLen at hs
  have Hl := Lib.hid (size_list s)
  go_enter Tryz.func108, Tryz.ntmps108
  go_wp2_with fail
  go_loop [3] (fun i => ∃ k : Nat, k ≤ s.size ∧ i = .int .i64 k ∧ ((s.data.toList.take k).any fun c => c == 46) = false) (fun i => s.size - (intOf i).toNat)
  case atStart => exact ⟨0, by omega, rfl, rfl⟩
  case round =>
    obtain ⟨k, hk, rfl, hall⟩ := hrel
    have Hall := Lib.hid hall
    clear hall
    by_cases hlt : k < s.size
    · have hta := take_at s k hlt
      by_cases h46 : s[k]'hlt = 46
      · have hf : isRealL s.data.toList = (isIntL (s.data.toList.take k) && isIntL (s.data.toList.drop (k + 1))) := by
          unfold isRealL
          rw [findIdx_at s.data.toList k (by simpa using hlt) Hall.out h46]
        have Hf := Lib.hid hf
        have hc : (((s[k]'hlt).toNat : Int) == 46) = true := by rw [h46]; rfl
        have Ht := Lib.hid (extract_take s k)
        have Hd := Lib.hid (Lib.extract_to_end s (k + 1))
        clear hf hta h46
        have hk1 : (k : Int) + 1 ≤ (s.size : Int) := by omega
        go_wp2_with fail
        refine (risInt_calls _ _ (by unfold maxLen; simp; omega)).mono ?_
        rintro e w ⟨rfl, rfl⟩
        rw [Ht.out]
        generalize hb : isIntL (s.data.toList.take k) = b at *
        have Hb := Lib.hid hb
        clear hb
        cases b
        · go_wp2_with fail
          go_ret
          exact ⟨ret_bool (by simp [Hf.out, Hb.out]), rfl⟩
        · go_wp2_with fail
          refine (risInt_calls _ _ (by unfold maxLen; simp; omega)).mono ?_
          rintro e w ⟨rfl, rfl⟩
          rw [Hd.out]
          generalize hb : isIntL (s.data.toList.drop (k + 1)) = b at *
          have Hb2 := Lib.hid hb
          clear hb
          go_wp2_with fail
          go_ret
          exact ⟨ret_bool (by simp [Hf.out, Hb.out, Hb2.out]), rfl⟩
      · have hc : (((s[k]'hlt).toNat : Int) == 46) = false := by
          rw [beq_eq_false_iff_ne]
          intro h
          exact h46 (UInt8.toNat_inj.1 (by have : (s[k]'hlt).toNat = 46 := by omega
                                           rw [this]; rfl))
        have H : Hid (((s.data.toList.take (k + 1)).any fun c => c == 46) = false) := by
          show _ = false
          rw [hta, List.any_append, Hall.out]; simp [h46]
        clear hta h46
        go_wp2_with fail
        go_round
        case rel => exact ⟨k + 1, by omega, by go_num, H.out⟩
        case measure => simp [intOf]; omega
    · obtain rfl : k = s.size := by omega
      go_wp2_with fail
      go_ret
      refine ⟨ret_bool ?_, rfl⟩
      have := Hall.out
      rw [← Hl.out, List.take_length] at this
      simp [isRealL, findIdx_none _ this]

/-- The signs of the language. -/
def signsL : List (List UInt8) := [[43], [45], [42], [47], [40], [41], [91], [93], [123], [125], [59], [44], [61], [61, 61], [33, 61], [60], [60, 61], [62], [62, 61], [38, 38], [124, 124], [33]]
def signsB : List ByteArray := signsL.map fun l => ⟨l.toArray⟩
def isSign (l : List UInt8) : Bool := signsL.contains l
theorem signs_at : ∀ k, k < 22 → signsL.take (k + 1) = signsL.take k ++ [(signsB[k]?.getD ByteArray.empty).data.toList] := by
  decide +kernel
theorem signs_get (k : Nat) (h : k < 22) : ((signsB.map Value.string).toArray)[k]? = some (.string (signsB[k]?.getD ByteArray.empty)) := by
  have : k < signsB.length := h
  simp [List.getElem?_eq_getElem this]

set_option maxRecDepth 100000 in
theorem risSign_calls (s : ByteArray) (w : World) :
    Calls Tryz.prog 106 #[.string s] w fun e w' => e = .returned (.bool (isSign s.data.toList)) ∧ Below w.heap.size w w' := by
  go_enter Tryz.func106, Tryz.ntmps106
  go_wp2_with (first | (refine wpList_store_new _ _ _ rfl _ _ rfl _ (signsB.map Value.string).toArray rfl (by simp) rfl (by kernel_rfl) rfl (by decide +kernel) ?_))
  refine wp_named (fun W hb hc hz => ?_)
  have Hc := Lib.hid hc
  have Hb := Lib.hid hb
  clear hc hb hz
  go_loop [4] (fun i => ∃ k : Nat, k ≤ 22 ∧ i = .int .i64 k ∧ (signsL.take k).contains s.data.toList = false) (fun i => 22 - (intOf i).toNat)
  case atStart => exact ⟨0, by omega, rfl, rfl⟩
  case round =>
    obtain ⟨k, hk, rfl, hno⟩ := hrel
    have Hno := Lib.hid hno
    clear hno
    by_cases hlt : k < 22
    · have hcell : W.cell? ⟨w.heap.size, k, none⟩ = some (.string (signsB[k]?.getD ByteArray.empty)) :=
        Hc.out k _ (signs_get k hlt)
      have heq := toList_beq (signsB[k]?.getD ByteArray.empty) s
      have hwa := signs_at k hlt
      generalize signsB[k]?.getD ByteArray.empty = x at *
      by_cases hx : x.data.toList = s.data.toList
      · rw [decide_eq_true hx] at heq
        have hr : isSign s.data.toList = true := by
          unfold isSign
          rw [← List.take_append_drop (k + 1) signsL, hwa, hx]
          simp
        have Hr := Lib.hid hr
        clear hr hx hwa
        go_wp2_with fail
        go_ret
        exact ⟨ret_bool Hr.out.symm, Hb.out⟩
      · rw [decide_eq_false hx] at heq
        have hn : (signsL.take (k + 1)).contains s.data.toList = false := by
          have := Hno.out
          rw [hwa]
          simp at this ⊢
          exact ⟨this, fun h => hx (by rw [h])⟩
        have Hn := Lib.hid hn
        clear hn hx hwa
        go_wp2_with fail
        go_round
        case rel => exact ⟨k + 1, by omega, by go_num, Hn.out⟩
        case measure => simp [intOf]; omega
    · obtain rfl : k = 22 := by omega
      have hn : isSign s.data.toList = false := by
        have := Hno.out
        rw [List.take_of_length_le (by decide)] at this
        exact this
      have Hn := Lib.hid hn
      clear hn Hno
      go_wp2_with fail
      go_ret
      exact ⟨ret_bool Hn.out.symm, Hb.out⟩

/-- A text's kind; 0: it is no token. -/
def kindOf (l : List UInt8) : Int := if isWord l = true then 2 else if isName l = true then 1 else if isIntL l = true then 3 else if isRealL l = true then 4 else if isSign l = true then 5 else 0
theorem rkind_calls (s : ByteArray) (w : World) (hs : s.size ≤ maxLen) :
    Calls Tryz.prog 61 #[.string s] w fun e w' => e = .returned (.int .i64 (kindOf s.data.toList)) ∧ Below w.heap.size w w' := by
  have Hsz := Lib.hid hs
  clear hs
  go_enter Tryz.func61, Tryz.ntmps61
  go_wp2_with fail
  refine (risWord_calls _ _).mono ?_
  rintro e w1 ⟨rfl, hb1⟩
  have Hb := Lib.hid hb1
  clear hb1
  generalize h : isWord s.data.toList = b at *
  have H1 := Lib.hid h
  clear h
  cases b
  case true =>
    go_wp2_with fail
    go_ret
    exact ⟨ret_int (by simp [kindOf, H1.out]), Hb.out⟩
  go_wp2_with fail
  refine (risName_calls _ _ Hsz.out).mono ?_
  rintro e w2 ⟨rfl, hb2⟩
  replace Hb := Lib.hid (below2 Hb.out hb2)
  clear hb2
  generalize h : isName s.data.toList = b at *
  have H2 := Lib.hid h
  clear h
  cases b
  case true =>
    go_wp2_with fail
    go_ret
    exact ⟨ret_int (by simp [kindOf, H1.out, H2.out]), Hb.out⟩
  go_wp2_with fail
  refine (risInt_calls _ _ Hsz.out).mono ?_
  rintro e w2 ⟨rfl, rfl⟩
  generalize h : isIntL s.data.toList = b at *
  have H3 := Lib.hid h
  clear h
  cases b
  case true =>
    go_wp2_with fail
    go_ret
    exact ⟨ret_int (by simp [kindOf, H1.out, H2.out, H3.out]), Hb.out⟩
  go_wp2_with fail
  refine (risReal_calls _ _ Hsz.out).mono ?_
  rintro e w2 ⟨rfl, rfl⟩
  generalize h : isRealL s.data.toList = b at *
  have H4 := Lib.hid h
  clear h
  cases b
  case true =>
    go_wp2_with fail
    go_ret
    exact ⟨ret_int (by simp [kindOf, H1.out, H2.out, H3.out, H4.out]), Hb.out⟩
  go_wp2_with fail
  refine (risSign_calls _ _).mono ?_
  rintro e w3 ⟨rfl, hb3⟩
  replace Hb := Lib.hid (below2 Hb.out hb3)
  clear hb3
  generalize h : isSign s.data.toList = b at *
  have H5 := Lib.hid h
  clear h
  cases b <;>
  · go_wp2_with fail
    go_ret
    exact ⟨ret_int (by simp [kindOf, H1.out, H2.out, H3.out, H4.out, H5.out]), Hb.out⟩
end

/-! The document's scanner (plumblineref04): where a token ends, and all tokens. -/
section
set_option linter.unusedVariables false
set_option linter.unusedSimpArgs false
open Go.RowKit

theorem drop_byte (s : ByteArray) (k : Nat) (h : k < s.size) : s.data.toList.drop k = s[k] :: s.data.toList.drop (k + 1) := drop_at s k h
theorem hd0_drop (s : ByteArray) (k : Nat) (h : k < s.size) : hd0 (s.data.toList.drop k) = ((s[k]'h).toNat : Int) := by
  rw [drop_byte s k h]; rfl
/-- So many bytes from a place on are so. -/
def TwF (p : Int → Bool) (l : List UInt8) (a k : Nat) : Prop := a + k ≤ l.length ∧ tw p (l.drop a) = k + tw p (l.drop (a + k))
theorem TwF.zero {p : Int → Bool} {l : List UInt8} {a : Nat} (h : a ≤ l.length) : TwF p l a 0 := ⟨h, by simp⟩
theorem TwF.yes {p : Int → Bool} {s : ByteArray} {a k : Nat} (h : TwF p s.data.toList a k) (hlt : a + k < s.size) (hy : p ((s[a + k]'hlt).toNat : Int) = true) : TwF p s.data.toList a (k + 1) := by
  refine ⟨by simp; omega, ?_⟩
  rw [h.2, drop_byte s _ hlt, tw_yes p _ _ hy, Nat.add_assoc a k 1]
  omega
theorem TwF.no {p : Int → Bool} {s : ByteArray} {a k : Nat} (h : TwF p s.data.toList a k) (hlt : a + k < s.size) (hn : p ((s[a + k]'hlt).toNat : Int) = false) : tw p (s.data.toList.drop a) = k := by
  rw [h.2, drop_byte s _ hlt, tw_no p _ _ hn]; rfl
theorem TwF.done {p : Int → Bool} {s : ByteArray} {a k : Nat} (h : TwF p s.data.toList a k) (hge : ¬ a + k < s.size) : tw p (s.data.toList.drop a) = k := by
  rw [h.2, List.drop_of_length_le (by simp; omega)]; rfl

/-- How many bytes the token has that a text begins with, as the document says. -/
def endOf (l : List UInt8) : Nat :=
  if isLe (hd0 l) = true then tw inNm l
  else if isDi (hd0 l) = true then
    (if hd0 (l.drop (tw isDi l)) = 46 ∧ isDi (hd0 (l.drop (tw isDi l + 1))) = true then tw isDi l + 1 + tw isDi (l.drop (tw isDi l + 1)) else tw isDi l)
  else if 2 ≤ l.length ∧ isSign (l.take 2) = true then 2 else 1

theorem rend_calls (s : ByteArray) (q : Nat) (w : World) (hs : s.size ≤ 8192) (hq : q < s.size) :
    Calls Tryz.prog 60 #[.string s, .int .i64 q] w fun e w' => e = .returned (.int .i64 ((q + endOf (s.data.toList.drop q) : Nat) : Int)) ∧ Below w.heap.size w w' := by
  have Hl := Lib.hid (size_list s)
  have Hh := Lib.hid (hd0_drop s q hq)
  go_enter Tryz.func60, Tryz.ntmps60
  go_wp2_with fail
  refine (rletter_calls _ _).mono ?_
  rintro e w ⟨rfl, rfl⟩
  generalize hL : isLe ((s[q]'hq).toNat : Int) = b at *
  have HL := Lib.hid hL
  clear hL
  cases b
  · go_wp2_with fail
    refine (rdigit_calls _ _).mono ?_
    rintro e w ⟨rfl, rfl⟩
    generalize hD : isDi ((s[q]'hq).toNat : Int) = b at *
    have HD := Lib.hid hD
    clear hD
    cases b
    · by_cases h2 : q + 2 ≤ s.size
      · have h2' : (q : Int) + 2 ≤ (s.size : Int) := by omega
        have hd : decide ((q : Int) + 2 ≤ (s.size : Int)) = true := by simp; omega
        have hx : (s.extract q (q + 2)).data.toList = (s.data.toList.drop q).take 2 := by rw [Lib.extract_data]; simp
        have Hx := Lib.hid hx
        clear hx
        have hq2 : (q : Int) ≤ (q : Int) + 2 := by omega
        go_wp2_with fail
        refine (risSign_calls _ _).mono ?_
        rintro e w1 ⟨rfl, hb1⟩
        rw [Hx.out]
        have Hb1 := Lib.hid hb1
        clear hb1
        generalize hS : isSign ((s.data.toList.drop q).take 2) = b at *
        have HS := Lib.hid hS
        clear hS
        have h2l : Hid (2 ≤ (s.data.toList.drop q).length) := by show 2 ≤ _; simp; omega
        cases b
        · go_wp2_with fail
          go_ret
          refine ⟨ret_int ?_, Hb1.out⟩
          simp only [endOf, Hh.out, HL.out, HD.out, HS.out]
          simp
        · go_wp2_with fail
          go_ret
          refine ⟨ret_int ?_, Hb1.out⟩
          simp only [endOf, Hh.out, HL.out, HD.out, HS.out]
          rw [if_neg (by simp), if_neg (by simp), if_pos ⟨h2l.out, trivial⟩]
          simp
      · have hd : decide ((q : Int) + 2 ≤ (s.size : Int)) = false := by simp; omega
        have hlt1 : (s.size : Int) < (q : Int) + 2 := by omega
        have h2l : Hid (¬ 2 ≤ (s.data.toList.drop q).length) := by show ¬ 2 ≤ _; simp; omega
        go_wp2_with fail
        go_ret
        refine ⟨ret_int ?_, Below.refl _ _⟩
        simp only [endOf, Hh.out, HL.out, HD.out]
        rw [if_neg (by simp), if_neg (by simp), if_neg (fun h => h2l.out h.1)]
        simp
    · have hf : endOf (s.data.toList.drop q) = (if hd0 ((s.data.toList.drop q).drop (tw isDi (s.data.toList.drop q))) = 46 ∧ isDi (hd0 ((s.data.toList.drop q).drop (tw isDi (s.data.toList.drop q) + 1))) = true then tw isDi (s.data.toList.drop q) + 1 + tw isDi ((s.data.toList.drop q).drop (tw isDi (s.data.toList.drop q) + 1)) else tw isDi (s.data.toList.drop q)) := by
        simp only [endOf, Hh.out, HL.out, HD.out]; simp
      have Hf := Lib.hid hf
      clear hf
      go_wp2_with fail
      go_loop [5] (fun i => ∃ k : Nat, q + k ≤ s.size ∧ i = .int .i64 ((q : Int) + (k : Int)) ∧ TwF isDi s.data.toList q k) (fun i => s.size - (intOf i).toNat)
      case atStart => exact ⟨0, by omega, by go_num, TwF.zero (by simp; omega)⟩
      case round =>
        obtain ⟨k, hk, rfl, ht⟩ := hrel
        have Ht := Lib.hid ht
        clear ht
        by_cases hlt : q + k < s.size
        · have hlt1 : (q : Int) + (k : Int) < (s.size : Int) := by omega
          have hd : decide ((q : Int) + (k : Int) < (s.size : Int)) = true := by simpa using hlt1
          go_wp2_with fail
          refine (rdigit_calls _ _).mono ?_
          rintro e w ⟨rfl, rfl⟩
          generalize hb2 : isDi ((s[q + k]'hlt).toNat : Int) = b2 at *
          cases b2
          · have ht := Ht.out.no hlt hb2
            clear hb2
            have Htw := Lib.hid ht
            clear ht
            by_cases h1 : q + k + 1 < s.size
            · have hlt2 : (q : Int) + (k : Int) + 1 < (s.size : Int) := by omega
              have hd2 : decide ((q : Int) + (k : Int) + 1 < (s.size : Int)) = true := by simpa using hlt2
              have hh1 : hd0 ((s.data.toList.drop q).drop k) = ((s[q + k]'hlt).toNat : Int) := by rw [List.drop_drop]; exact hd0_drop s _ hlt
              have hh2 : hd0 ((s.data.toList.drop q).drop (k + 1)) = ((s[q + k + 1]'h1).toNat : Int) := by rw [List.drop_drop]; exact hd0_drop s _ h1
              have Hh1 := Lib.hid hh1
              have Hh2 := Lib.hid hh2
              clear hh1 hh2
              by_cases h46 : ((s[q + k]'hlt).toNat : Int) = 46
              · have hc1 : (((s[q + k]'hlt).toNat : Int) == 46) = true := by simp [h46]
                have H46 := Lib.hid h46
                clear h46
                go_wp2_with fail
                refine (rdigit_calls _ _).mono ?_
                rintro e w ⟨rfl, rfl⟩
                generalize hb3 : isDi ((s[q + k + 1]'h1).toNat : Int) = b3 at *
                have Hb3 := Lib.hid hb3
                clear hb3
                cases b3
                · go_wp2_with fail
                  go_ret
                  refine ⟨ret_int ?_, Below.refl _ _⟩
                  rw [Hf.out, Htw.out, Hh1.out, Hh2.out, Hb3.out, if_neg (by simp)]
                  simp
                · have hf2 : endOf (s.data.toList.drop q) = k + 1 + tw isDi (s.data.toList.drop (q + (k + 1))) := by
                    rw [Hf.out, Htw.out, Hh1.out, Hh2.out, Hb3.out, if_pos ⟨H46.out, rfl⟩, List.drop_drop]
                  have Hf2 := Lib.hid hf2
                  clear hf2
                  go_wp2_with fail
                  clear Hh1 Hh2 Hb3 H46 hc1 hd2 Htw Ht
                  obtain ⟨w0, rfl⟩ : ∃ w0 : World, w0 = w := ⟨_, rfl⟩
                  go_loop [5] (fun i => ∃ k' : Nat, q + (k + 1) + k' ≤ s.size ∧ i = .int .i64 ((q : Int) + ((k + 1 : Nat) : Int) + (k' : Int)) ∧ TwF isDi s.data.toList (q + (k + 1)) k') (fun i => s.size - (intOf i).toNat)
                  case atStart => exact ⟨0, by omega, by go_num, TwF.zero (by simp; omega)⟩
                  case round =>
                    obtain ⟨k', hk', rfl, ht⟩ := hrel
                    have Ht := Lib.hid ht
                    clear ht
                    by_cases hlt' : q + (k + 1) + k' < s.size
                    · have hlt1' : (q : Int) + ((k + 1 : Nat) : Int) + (k' : Int) < (s.size : Int) := by omega
                      have hd : decide ((q : Int) + ((k + 1 : Nat) : Int) + (k' : Int) < (s.size : Int)) = true := by simpa using hlt1'
                      go_wp2_with fail
                      refine (rdigit_calls _ _).mono ?_
                      rintro e w ⟨rfl, rfl⟩
                      generalize hb2 : isDi ((s[q + (k + 1) + k']'hlt').toNat : Int) = b2 at *
                      cases b2
                      · have ht := Ht.out.no hlt' hb2
                        clear hb2
                        have Htw := Lib.hid ht
                        clear ht
                        go_wp2_with fail
                        go_ret
                        refine ⟨ret_int ?_, Below.refl _ _⟩
                        rw [Hf2.out, Htw.out]
                        omega
                      · have ht := Ht.out.yes hlt' hb2
                        clear hb2 Ht
                        have Ht := Lib.hid ht
                        clear ht
                        go_wp2_with fail
                        go_round
                        case rel => exact ⟨k' + 1, by omega, by go_num, Ht.out⟩
                        case measure => simp [intOf]; omega
                    · have hlt1' : (s.size : Int) ≤ (q : Int) + ((k + 1 : Nat) : Int) + (k' : Int) := by omega
                      have hd : decide ((q : Int) + ((k + 1 : Nat) : Int) + (k' : Int) < (s.size : Int)) = false := by simp; omega
                      have Htw := Lib.hid (Ht.out.done hlt')
                      go_wp2_with fail
                      go_ret
                      refine ⟨ret_int ?_, Below.refl _ _⟩
                      rw [Hf2.out, Htw.out]
                      omega
              · have hc1 : (((s[q + k]'hlt).toNat : Int) == 46) = false := by simp [h46]
                have H46 := Lib.hid h46
                clear h46
                go_wp2_with fail
                go_ret
                refine ⟨ret_int ?_, Below.refl _ _⟩
                rw [Hf.out, Htw.out, Hh1.out, if_neg (fun h => H46.out h.1)]
                simp
            · have hlt2 : (s.size : Int) ≤ (q : Int) + (k : Int) + 1 := by omega
              have hd2 : decide ((q : Int) + (k : Int) + 1 < (s.size : Int)) = false := by simp; omega
              have hn : ((s.data.toList.drop q).drop (k + 1)) = [] := by rw [List.drop_drop, List.drop_of_length_le (by simp; omega)]
              have Hn := Lib.hid hn
              clear hn
              go_wp2_with fail
              go_ret
              refine ⟨ret_int ?_, Below.refl _ _⟩
              rw [Hf.out, Htw.out, Hn.out, if_neg (fun h => absurd h.2 (by decide))]
              simp
          · have ht := Ht.out.yes hlt hb2
            clear hb2 Ht
            have Ht := Lib.hid ht
            clear ht
            go_wp2_with fail
            go_round
            case rel => exact ⟨k + 1, by omega, by go_num, Ht.out⟩
            case measure => simp [intOf]; omega
        · have hlt1 : ¬ (q : Int) + (k : Int) < (s.size : Int) := by omega
          have hd : decide ((q : Int) + (k : Int) < (s.size : Int)) = false := by simpa using hlt1
          have Htw := Lib.hid (Ht.out.done hlt)
          have hlt2 : (s.size : Int) ≤ (q : Int) + (k : Int) + 1 := by omega
          have hd2 : decide ((q : Int) + (k : Int) + 1 < (s.size : Int)) = false := by simp; omega
          have hn : ((s.data.toList.drop q).drop (k + 1)) = [] := by rw [List.drop_drop, List.drop_of_length_le (by simp; omega)]
          have Hn := Lib.hid hn
          clear hn
          go_wp2_with fail
          go_ret
          refine ⟨ret_int ?_, Below.refl _ _⟩
          rw [Hf.out, Htw.out, Hn.out, if_neg (fun h => absurd h.2 (by decide))]
  · have hf : endOf (s.data.toList.drop q) = tw inNm (s.data.toList.drop q) := by
      simp only [endOf, Hh.out, HL.out]; simp
    have Hf := Lib.hid hf
    clear hf
    go_wp2_with fail
    go_loop [5] (fun i => ∃ k : Nat, q + k ≤ s.size ∧ i = .int .i64 ((q : Int) + (k : Int)) ∧ TwF inNm s.data.toList q k) (fun i => s.size - (intOf i).toNat)
    case atStart => exact ⟨0, by omega, by go_num, TwF.zero (by simp; omega)⟩
    case round =>
      obtain ⟨k, hk, rfl, ht⟩ := hrel
      have Ht := Lib.hid ht
      clear ht
      by_cases hlt : q + k < s.size
      · have hlt1 : (q : Int) + (k : Int) < (s.size : Int) := by omega
        have hd : decide ((q : Int) + (k : Int) < (s.size : Int)) = true := by simpa using hlt1
        have hyes := fun h => Ht.out.yes hlt h
        have hno := fun h => Ht.out.no hlt h
        have Hy := Lib.hid hyes
        have Hn := Lib.hid hno
        clear hyes hno
        go_wp2_with fail
        refine (rletter_calls _ _).mono ?_
        rintro e w ⟨rfl, rfl⟩
        generalize hb1 : isLe ((s[q + k]'hlt).toNat : Int) = b1 at *
        have Hb1' := Lib.hid hb1
        clear hb1
        cases b1
        · go_wp2_with fail
          refine (rdigit_calls _ _).mono ?_
          rintro e w ⟨rfl, rfl⟩
          generalize hb2 : isDi ((s[q + k]'hlt).toNat : Int) = b2 at *
          have Hb2' := Lib.hid hb2
          clear hb2
          cases b2
          · by_cases h95 : ((s[q + k]'hlt).toNat : Int) = 95
            · have hc1 : (((s[q + k]'hlt).toNat : Int) == 95) = true := by simp [h95]
              have h := Hy.out (by rw [inNm, Hb1'.out, Hb2'.out, h95]; rfl)
              have H := Lib.hid h
              clear h h95
              go_wp2_with fail
              go_round
              case rel => exact ⟨k + 1, by omega, by go_num, H.out⟩
              case measure => simp [intOf]; omega
            · have hc1 : (((s[q + k]'hlt).toNat : Int) == 95) = false := by simp [h95]
              have h := Hn.out (by rw [inNm, Hb1'.out, Hb2'.out]; simp [h95])
              have H := Lib.hid h
              clear h h95
              go_wp2_with fail
              go_ret
              exact ⟨ret_int (by rw [Hf.out, H.out]; simp), Below.refl _ _⟩
          · have h := Hy.out (by rw [inNm, Hb1'.out, Hb2'.out]; rfl)
            have H := Lib.hid h
            clear h
            go_wp2_with fail
            go_round
            case rel => exact ⟨k + 1, by omega, by go_num, H.out⟩
            case measure => simp [intOf]; omega
        · have h := Hy.out (by rw [inNm, Hb1'.out]; rfl)
          have H := Lib.hid h
          clear h
          go_wp2_with fail
          go_round
          case rel => exact ⟨k + 1, by omega, by go_num, H.out⟩
          case measure => simp [intOf]; omega
      · have hlt1 : ¬ (q : Int) + (k : Int) < (s.size : Int) := by omega
        have hd : decide ((q : Int) + (k : Int) < (s.size : Int)) = false := by simpa using hlt1
        have Htw := Lib.hid (Ht.out.done hlt)
        go_wp2_with fail
        go_ret
        exact ⟨ret_int (by rw [Hf.out, Htw.out]), Below.refl _ _⟩

/-- The document's scanner, from a place on. -/
def rscanGo : Nat → List UInt8 → Nat → List Tok → List Tok × Int × Nat
  | 0, _, _, ts => (ts, 0, 0)
  | f + 1, l, p, ts =>
    if l = [] then (ts, 0, 0)
    else if isBl (hd0 l) = true then rscanGo f (l.drop 1) (p + 1) ts
    else if kindOf (l.take (endOf l)) = 0 then ([], 3, p)
    else if ts.length = 2048 then ([], 5, p)
    else rscanGo f (l.drop (endOf l)) (p + endOf l) (ts ++ [⟨kindOf (l.take (endOf l)), l.take (endOf l), p⟩])
def rscan (l : List UInt8) : List Tok × Int × Nat :=
  if 8192 < l.length then ([], 5, 0) else rscanGo (l.length + 1) l 0 []

theorem endOf_le (l : List UInt8) (h : l ≠ []) : endOf l ≤ l.length ∧ 1 ≤ endOf l := by
  have h1 := tw_le inNm l
  have h2 := tw_le isDi l
  have h3 := tw_le isDi (l.drop (tw isDi l + 1))
  cases l with
  | nil => exact absurd rfl h
  | cons c l =>
    unfold endOf
    split
    · rename_i hL
      refine ⟨h1, ?_⟩
      rw [tw_yes _ _ _ (by unfold inNm; simp only [hd0] at hL; simp [hL])]
      omega
    · split
      · rename_i hD
        have h0 : 1 ≤ tw isDi (c :: l) := by rw [tw_yes _ _ _ (by simpa [hd0] using hD)]; omega
        split
        · rename_i hx
          refine ⟨?_, by omega⟩
          have hlt : tw isDi (c :: l) + 1 < (c :: l).length := by
            by_cases hc : tw isDi (c :: l) + 1 < (c :: l).length
            · exact hc
            · have := hx.2
              rw [List.drop_of_length_le (by omega)] at this
              exact absurd this (by decide)
          rw [List.length_drop] at h3
          omega
        · exact ⟨h2, h0⟩
      · split
        · rename_i hx; exact ⟨hx.1, by omega⟩
        · simp

theorem rscan_calls (s : ByteArray) (w : World) (hs : s.size ≤ maxLen) :
    Calls Tryz.prog 25 #[.string s] w fun e w' => ∃ v, e = .returned (.tuple #[v, .int .i64 (rscan s.data.toList).2.1, .int .i64 (rscan s.data.toList).2.2]) ∧
      RdAt w' v (rscan s.data.toList).1.length 3 (tokCells (rscan s.data.toList).1) ∧ Below w.heap.size w w' := by
  unfold maxLen at hs
  by_cases hbig : 8192 < s.size
  · have hd : decide ((8192 : Int) < (s.size : Int)) = true := by simp; omega
    have hr : rscan s.data.toList = ([], 5, 0) := by unfold rscan; rw [if_pos (by simpa using hbig)]
    have Hr := Lib.hid hr
    clear hr
    go_enter Tryz.func25, Tryz.ntmps25
    go_wp2_with fail
    go_ret3
    rw [Hr.out]
    exact ⟨_, rfl, RdAt.nil _ _ _ _, Below.refl _ _⟩
  · have hr : rscan s.data.toList = rscanGo (s.size + 1) s.data.toList 0 [] := by
      unfold rscan; rw [if_neg (by simpa using hbig)]; simp
    have hd : decide ((8192 : Int) < (s.size : Int)) = false := by simp; omega
    have hsz : s.size ≤ 8192 := by omega
    generalize hR : rscan s.data.toList = R at *
    have Hr := Lib.hid hr
    clear hr hR
    obtain ⟨i0, hi, hz0, hz1, hz2⟩ := info_parts lexInfo
    go_enter Tryz.func25, Tryz.ntmps25
    go_wp2_with fail
    go_loopw [5, 6] (fun v p W => ∃ (ts : List Tok) (q f : Nat), p = .int .i64 q ∧ q ≤ s.size ∧ ts.length ≤ 2048 ∧ W.ownsRow w.heap.size 42 3 v ts.length (tokCells ts) ∧ Below w.heap.size w W ∧
      s.size - q < f ∧ rscanGo f (s.data.toList.drop q) q ts = R) (fun _ p _ => s.size - (intOf p).toNat)
    case atStart => exact ⟨[], 0, s.size + 1, rfl, by omega, by simp, World.ownsRow_nil _ _ _ _, Below.refl _ _, by omega, Hr.out.symm⟩
    case round =>
      obtain ⟨ts, q, f, rfl, hq, hts, hown, hbw, hf, hgo⟩ := hrel
      obtain ⟨A, c, rfl⟩ := own_shape hown
      have Hown := Lib.hid hown
      have Hbw := Lib.hid hbw
      have Hgo := Lib.hid hgo
      clear hown hbw hgo hd Hr
      by_cases hlt : q < s.size
      · obtain ⟨f, rfl⟩ : ∃ g, f = g + 1 := ⟨f - 1, by omega⟩
        have hne : ¬ s.data.toList.drop q = [] := by
          intro h
          have := congrArg List.length h
          simp at this
          omega
        have hgo := Hgo.out
        simp only [rscanGo, hd0_drop s q hlt] at hgo
        rw [if_neg hne] at hgo
        clear Hgo
        have hel := endOf_le _ hne
        have Hel := Lib.hid hel
        clear hel hne
        go_wp2_with fail
        refine (rblank_calls _ _).mono ?_
        rintro e wr ⟨rfl, rfl⟩
        generalize hb : isBl ((s[q]'hlt).toNat : Int) = b at *
        clear hb
        cases b
        · rw [if_neg (by simp)] at hgo
          have Hgo := Lib.hid hgo
          clear hgo
          go_wp2_with fail
          refine (rend_calls s q _ hsz hlt).mono ?_
          rintro e w1 ⟨rfl, hb1⟩
          have hn := Hel.out
          generalize hn' : endOf (s.data.toList.drop q) = n at *
          have hnl : n ≤ s.size - q := by simpa using hn.1
          have hn1 : 1 ≤ n := hn.2
          have Hn' := Lib.hid hn'
          have hown1 := own_kept Hown.out hb1
          have hbw1 := below2 Hbw.out hb1
          have hx : (s.extract q (q + n)).data.toList = (s.data.toList.drop q).take n := by rw [Lib.extract_data]; simp
          have Hx := Lib.hid hx
          have Hown1 := Lib.hid hown1
          have Hbw1 := Lib.hid hbw1
          clear hn hn' hb1 hown1 hbw1 hx Hel
          have hqn : (q : Int) + (n : Int) ≤ (s.size : Int) := by omega
          have hqq : (q : Int) ≤ (q : Int) + (n : Int) := by omega
          rw [Int.natCast_add]
          go_wp2_with fail
          refine (rkind_calls _ _ (by unfold maxLen; simp; omega)).mono ?_
          rintro e w2 ⟨rfl, hb2⟩
          rw [Hx.out]
          have hgo := Hgo.out
          have hown2 := own_kept Hown1.out hb2
          have hbw2 := below2 Hbw1.out hb2
          have hbase2 := hbw2.size
          have Hown2 := Lib.hid hown2
          have Hbw2 := Lib.hid hbw2
          clear hb2 hown2 hbw2 Hgo
          generalize kindOf ((s.data.toList.drop q).take n) = k at *
          by_cases hk : k = 0
          · subst hk
            rw [if_pos rfl] at hgo
            subst hgo
            go_wp2_with fail
            go_ret3
            exact ⟨_, rfl, RdAt.nil _ _ _ _, Hbw2.out⟩
          · rw [if_neg hk] at hgo
            have hk1 : (k == 0) = false := by simpa using hk
            by_cases hlen : ts.length = 2048
            · rw [if_pos hlen] at hgo
              subst hgo
              have hl2 : ((ts.length : Int) == 2048) = true := by simp; omega
              clear hlen
              go_wp2_with fail
              go_ret3
              exact ⟨_, rfl, RdAt.nil _ _ _ _, Hbw2.out⟩
            · rw [if_neg hlen] at hgo
              have hl2 : ((ts.length : Int) == 2048) = false := by simp; omega
              have Hgo := Lib.hid hgo
              clear hgo
              go_wp2_with (first | (at_builtin; refine append_lit _ _ _ rfl _ _ 37 rfl w.heap.size i0 _ 3 32 Tryz.underlying37 hi hz0 hz1 hz2 rfl (by decide) _ _ _ rfl Hown2.out 1 _ rfl rfl rfl rfl (by omega) (by decide) hbase2 Hbw2.out ?_; intro v' w4 hown4 hg4 hb4))
              have hx4 : s.extract q (q + n) = ⟨((s.data.toList.drop q).take n).toArray⟩ := by
                rw [← Hx.out]
              rw [hx4] at hown4
              have Hown4 := Lib.hid hown4
              have Hb4 := Lib.hid hb4
              clear hown4 hg4 hb4 hx4
              go_wp2_with fail
              go_roundw
              case rel =>
                refine ⟨ts ++ [⟨k, (s.data.toList.drop q).take n, q⟩], q + n, f, by go_num, by omega, by simp; omega, ?_, Hb4.out, by omega, ?_⟩
                · have := Hown4.out
                  rw [tokCells_snoc, List.length_append]
                  exact this
                · rw [← Hgo.out, List.drop_drop]
              case measure => simp [intOf]; omega
        · rw [if_pos rfl] at hgo
          have Hgo := Lib.hid hgo
          clear hgo
          go_wp2_with fail
          go_roundw
          case rel => exact ⟨ts, q + 1, f, by go_num, by omega, hts, Hown.out, Hbw.out, by omega, by rw [← Hgo.out, List.drop_drop]⟩
          case measure => simp [intOf]; omega
      · go_wp2_with fail
        go_ret3
        cases f with
        | zero => omega
        | succ f =>
          have hgo := Hgo.out
          rw [List.drop_of_length_le (by simpa using hlt)] at hgo
          simp only [rscanGo, if_true] at hgo
          subst hgo
          exact ⟨_, rfl, RdAt.of_own Hown.out (by show ts.length ≤ _; omega), Hbw.out⟩
end

/-! Plain: the scanner and the document's scanner answer alike. -/
section
set_option linter.unusedVariables false
set_option linter.unusedSimpArgs false

theorem tw_take_length (p : Int → Bool) (l : List UInt8) : (l.take (tw p l)).length = tw p l := by
  rw [List.length_take]; have := tw_le p l; omega
theorem tw_take_all (p : Int → Bool) (l : List UInt8) : ((l.take (tw p l)).all fun c => p c.toNat) = true := by
  induction l with
  | nil => rfl
  | cons c l ih =>
    cases h : p c.toNat with
    | true => rw [tw_yes p c l h]; simp [h] at ih ⊢; exact ih
    | false => rw [tw_no p c l h]; rfl
theorem tw_all_eq {p : Int → Bool} {l : List UInt8} (h : (l.all fun c => p c.toNat) = true) : tw p l = l.length := by
  have := tw_all p l
  rw [h] at this
  exact of_decide_eq_true this
theorem hd0_take {l : List UInt8} {n : Nat} (h : 1 ≤ n) : hd0 (l.take n) = hd0 l := by
  cases l with
  | nil => simp
  | cons c l => cases n with
    | zero => omega
    | succ n => rfl
theorem tw_pos {p : Int → Bool} {l : List UInt8} (hne : l ≠ []) : 1 ≤ tw p l ↔ p (hd0 l) = true := by
  cases l with
  | nil => exact absurd rfl hne
  | cons c l =>
    cases h : p c.toNat with
    | true => rw [tw_yes p c l h]; simp [hd0, h]
    | false => rw [tw_no p c l h]; simp [hd0, h]
theorem tw_drop_no (p : Int → Bool) (l : List UInt8) (hne : l.drop (tw p l) ≠ []) : p (hd0 (l.drop (tw p l))) = false := by
  induction l with
  | nil => simp at hne
  | cons c l ih =>
    cases h : p c.toNat with
    | true => rw [tw_yes p c l h] at hne ⊢; exact ih hne
    | false => rw [tw_no p c l h]; exact h
theorem word_head : (wordsL.all fun x => isLe (hd0 x) && decide (x ≠ [])) = true := by decide +kernel
theorem sign_head : (signsL.all fun x => !isLe (hd0 x) && !isDi (hd0 x) && decide (x ≠ []) && decide (x.length ≤ 2)) = true := by decide +kernel
theorem not_word {l : List UInt8} (h : isLe (hd0 l) = false) : isWord l = false := by
  rw [Bool.eq_false_iff]
  intro hw
  unfold isWord at hw
  rw [List.contains_iff_mem] at hw
  have := List.all_eq_true.1 word_head l hw
  rw [h] at this
  simp at this
theorem not_sign {l : List UInt8} (h : isLe (hd0 l) = true ∨ isDi (hd0 l) = true) : isSign l = false := by
  rw [Bool.eq_false_iff]
  intro hw
  unfold isSign at hw
  rw [List.contains_iff_mem] at hw
  have := List.all_eq_true.1 sign_head l hw
  rcases h with h | h <;> rw [h] at this <;> simp at this
theorem not_name {l : List UInt8} (h : isLe (hd0 l) = false) : isName l = false := by simp [isName, h]
theorem le_di (r : Int) (h : isLe r = true) : isDi r = false := by
  unfold isLe at h; unfold isDi; simp at h ⊢; omega
theorem di_le (r : Int) (h : isDi r = true) : isLe r = false := by
  unfold isDi at h; unfold isLe; simp at h ⊢; omega
theorem not_int {l : List UInt8} (h : isDi (hd0 l) = false) : isIntL l = false := by
  cases l with
  | nil => rfl
  | cons c l => simp only [hd0] at h; simp [isIntL, h]
theorem find46_none {l : List UInt8} {p : Int → Bool} (hp : p 46 = false) (h : (l.all fun c => p c.toNat) = true) : l.findIdx? (· == 46) = none := by
  apply findIdx_none
  rw [List.any_eq_false]
  intro x hx hc
  have := List.all_eq_true.1 h x hx
  simp at hc
  subst hc
  have h46 : p (((46 : UInt8).toNat : Nat) : Int) = false := hp
  rw [h46] at this
  exact absurd this (by simp)
theorem u8_of_int {c : UInt8} {n : Nat} (hn : n < 256) (h : (c.toNat : Int) = n) : c = UInt8.ofNat n := by
  apply UInt8.toNat_inj.1
  rw [UInt8.toNat_ofNat']
  omega

theorem prefix_dot (l : List UInt8) : Lib.hasPrefix l [46] = true ↔ hd0 l = 46 := by
  cases l with
  | nil => simp [Lib.hasPrefix, hd0]
  | cons c l =>
    simp only [Lib.hasPrefix, hd0]
    constructor
    · intro h
      simp at h
      subst h; rfl
    · intro h
      have : c = 46 := u8_of_int (n := 46) (by omega) h
      subst this; simp
theorem num_eq (l : List UInt8) (hne : l ≠ []) (hD : isDi (hd0 l) = true) :
    numOf l = if kindOf (l.take (endOf l)) = 0 then (0, 0) else (endOf l, kindOf (l.take (endOf l))) := by
  have hL := di_le _ hD
  have h0 : 1 ≤ tw isDi l := (tw_pos hne).2 hD
  have hln := tw_take_length isDi l
  have hall := tw_take_all isDi l
  have hE : endOf l = (if hd0 (l.drop (tw isDi l)) = 46 ∧ isDi (hd0 (l.drop (tw isDi l + 1))) = true then tw isDi l + 1 + tw isDi (l.drop (tw isDi l + 1)) else tw isDi l) := by
    unfold endOf; rw [if_neg (by rw [hL]; simp), if_pos hD]
  unfold numOf
  by_cases h46 : hd0 (l.drop (tw isDi l)) = 46
  · by_cases hd2 : isDi (hd0 (l.drop (tw isDi l + 1))) = true
    · have hne2 : l.drop (tw isDi l + 1) ≠ [] := by intro h; rw [h] at hd2; exact absurd hd2 (by decide)
      have hk : 0 < tw isDi (l.drop (tw isDi l + 1)) := (tw_pos hne2).2 hd2
      have hE' := hE.trans (if_pos ⟨h46, hd2⟩)
      rw [if_pos ⟨(prefix_dot _).2 h46, hk⟩, hE']
      clear hE hE'
      generalize hn : tw isDi l = n at *
      generalize hm : tw isDi (l.drop (n + 1)) = m at *
      have hall2 := tw_take_all isDi (l.drop (n + 1))
      rw [hm] at hall2
      have hlen2 : n + 1 + m ≤ l.length := by
        have := tw_le isDi (l.drop (n + 1)); rw [hm, List.length_drop] at this
        have : n + 1 < l.length := by
          by_cases h : n + 1 < l.length
          · exact h
          · exact absurd (List.drop_of_length_le (by omega)) hne2
        omega
      have hsplit : l.take (n + 1 + m) = l.take n ++ 46 :: (l.drop (n + 1)).take m := by
        rw [List.take_add, List.take_add, List.append_assoc]
        congr 1
        have : (l.drop n).take 1 = [46] := by
          cases hd : l.drop n with
          | nil => rw [hd] at h46; simp [hd0] at h46
          | cons c r => rw [hd] at h46; rw [u8_of_int (n := 46) (by omega) (h46 : (c.toNat : Int) = 46)]; rfl
        rw [this]; rfl
      have hhd : hd0 (l.take (n + 1 + m)) = hd0 l := hd0_take (by omega)
      have hint : isIntL (l.take (n + 1 + m)) = false := by
        rw [hsplit, isIntL, List.all_append, List.all_cons]; simp [show isDi 46 = false by decide]
      have hreal : isRealL (l.take (n + 1 + m)) = true := by
        have hf : (l.take (n + 1 + m)).findIdx? (· == 46) = some n := by
          apply findIdx_at _ n (by rw [List.length_take]; omega)
          · rw [List.take_take, Nat.min_eq_left (by omega), List.any_eq_false]
            intro x hx hc
            have := List.all_eq_true.1 hall x hx
            simp at hc
            subst hc
            exact absurd this (by decide)
          · have : (l.take (n + 1 + m))[n]? = some 46 := by
              rw [hsplit, List.getElem?_append_right (by omega), hln]; simp
            rw [List.getElem?_eq_some_iff] at this
            exact this.2
        unfold isRealL
        rw [hf]
        show (isIntL ((l.take (n + 1 + m)).take n) && isIntL ((l.take (n + 1 + m)).drop (n + 1))) = true
        have h1 : (l.take (n + 1 + m)).take n = l.take n := by rw [List.take_take, Nat.min_eq_left (by omega)]
        have h2 : (l.take (n + 1 + m)).drop (n + 1) = (l.drop (n + 1)).take m := by
          rw [List.drop_take]; congr 1; omega
        rw [h1, h2]
        unfold isIntL
        rw [hall, hall2]
        have e1 : l.take n ≠ [] := by intro h; rw [h] at hln; simp at hln; omega
        have e2 : (l.drop (n + 1)).take m ≠ [] := by
          intro h; rw [List.take_eq_nil_iff] at h
          rcases h with h | h
          · omega
          · exact hne2 h
        simp [e1, e2]
      have hkind : kindOf (l.take (n + 1 + m)) = 4 := by
        unfold kindOf
        rw [not_word (by rw [hhd]; exact hL), not_name (by rw [hhd]; exact hL), hint, hreal]; simp
      rw [hkind]; simp
    · have hk : ¬ 0 < tw isDi (l.drop (tw isDi l + 1)) := by
        intro h
        by_cases hne2 : l.drop (tw isDi l + 1) = []
        · rw [hne2] at h; simp [tw] at h
        · exact hd2 ((tw_pos hne2).1 h)
      have hE' := hE.trans (if_neg (fun h => hd2 h.2))
      rw [if_neg (fun h => hk h.2), hE']
      have hhd : hd0 (l.take (tw isDi l)) = hd0 l := hd0_take h0
      have hkind : kindOf (l.take (tw isDi l)) = 3 := by
        unfold kindOf
        rw [not_word (by rw [hhd]; exact hL), not_name (by rw [hhd]; exact hL)]
        have e1 : l.take (tw isDi l) ≠ [] := by intro h; rw [h] at hln; simp at hln; omega
        unfold isIntL
        rw [hall]; simp [e1]
      rw [hkind]; simp
  · have hE' := hE.trans (if_neg (fun h => h46 h.1))
    rw [if_neg (fun h => h46 ((prefix_dot _).1 h.1)), hE']
    have hhd : hd0 (l.take (tw isDi l)) = hd0 l := hd0_take h0
    have hkind : kindOf (l.take (tw isDi l)) = 3 := by
      unfold kindOf
      rw [not_word (by rw [hhd]; exact hL), not_name (by rw [hhd]; exact hL)]
      have e1 : l.take (tw isDi l) ≠ [] := by intro h; rw [h] at hln; simp at hln; omega
      unfold isIntL
      rw [hall]; simp [e1]
    rw [hkind]; simp

theorem twos_two (l : List UInt8) : (twosL.any (Lib.hasPrefix l)) = (decide (2 ≤ l.length) && isSign (l.take 2)) := by
  match l with
  | [] => decide
  | [c] => simp [twosL, Lib.hasPrefix, List.isPrefixOf]
  | a :: b :: r =>
    simp only [twosL, Lib.hasPrefix, isSign, signsL, List.take, List.length_cons, List.any_cons, List.any_nil, List.isPrefixOf, Bool.and_true, Bool.or_false]
    rw [Bool.eq_iff_iff]
    simp
    constructor
    · rintro (⟨rfl, rfl⟩ | ⟨rfl, rfl⟩ | ⟨rfl, rfl⟩ | ⟨rfl, rfl⟩ | ⟨rfl, rfl⟩ | ⟨rfl, rfl⟩) <;> simp
    · rintro (⟨rfl, rfl⟩ | ⟨rfl, rfl⟩ | ⟨rfl, rfl⟩ | ⟨rfl, rfl⟩ | ⟨rfl, rfl⟩ | ⟨rfl, rfl⟩) <;> simp
theorem one_sign (c : UInt8) : (onesL.any fun x => some c == some x) = isSign [c] := by
  simp only [onesL, isSign, signsL]
  rw [Bool.eq_iff_iff]
  simp
theorem ones_mem (c : UInt8) : c ∈ onesL ↔ isSign [c] = true := by
  rw [← one_sign, List.any_eq_true]
  constructor
  · intro h; exact ⟨c, h, by simp⟩
  · rintro ⟨x, hx, h⟩; simp at h; rw [h]; exact hx

theorem tok_eq (l : List UInt8) (hne : l ≠ []) :
    tokOf l = if kindOf (l.take (endOf l)) = 0 then (0, 0) else (endOf l, kindOf (l.take (endOf l))) := by
  by_cases hL : isLe (hd0 l) = true
  · have hn1 : 1 ≤ tw inNm l := (tw_pos hne).2 (by unfold inNm; rw [hL]; rfl)
    have he : endOf l = tw inNm l := by unfold endOf; rw [if_pos hL]
    have hhd : hd0 (l.take (tw inNm l)) = hd0 l := hd0_take hn1
    have hln := tw_take_length inNm l
    have hall := tw_take_all inNm l
    have hne' : l.take (tw inNm l) ≠ [] := by intro h; rw [h] at hln; simp at hln; omega
    unfold tokOf
    rw [if_pos hL, he]
    by_cases hw : isWord (l.take (tw inNm l)) = true
    · have hk : kindOf (l.take (tw inNm l)) = 2 := by unfold kindOf; rw [if_pos hw]
      rw [if_pos hw, hk]; simp
    · rw [if_neg hw]
      by_cases h16 : 16 < tw inNm l
      · have hnm : isName (l.take (tw inNm l)) = false := by
          unfold isName; rw [hln]; simp; omega
        have hk : kindOf (l.take (tw inNm l)) = 0 := by
          unfold kindOf
          rw [if_neg hw, hnm, not_int (by rw [hhd]; exact le_di _ hL), not_sign (by rw [hhd]; exact Or.inl hL)]
          have : isRealL (l.take (tw inNm l)) = false := by
            unfold isRealL
            rw [find46_none (p := inNm) (by decide) hall]
          rw [this]; simp
        rw [if_pos h16, hk]; simp
      · have hnm : isName (l.take (tw inNm l)) = true := by
          unfold isName
          rw [hln, hhd, hL, tw_all_eq hall, hln]
          simp [hw, hne']
          omega
        have hk : kindOf (l.take (tw inNm l)) = 1 := by
          unfold kindOf; rw [if_neg hw, if_pos hnm]
        rw [if_neg h16, hk]; simp
  · have hL' : isLe (hd0 l) = false := by simpa using hL
    by_cases hD : isDi (hd0 l) = true
    · unfold tokOf
      rw [if_neg hL, if_pos hD]
      exact num_eq l hne hD
    · have hD' : isDi (hd0 l) = false := by simpa using hD
      unfold tokOf
      rw [if_neg hL, if_neg hD]
      unfold signOf
      rw [twos_two]
      by_cases h2 : 2 ≤ l.length ∧ isSign (l.take 2) = true
      · have he : endOf l = 2 := by unfold endOf; rw [if_neg hL, if_neg hD, if_pos h2]
        have hhd : hd0 (l.take 2) = hd0 l := hd0_take (by omega)
        have hk : kindOf (l.take 2) = 5 := by
          have h46 : isRealL (l.take 2) = false := by
            have hs := h2.2
            unfold isSign at hs
            rw [List.contains_iff_mem] at hs
            have : (signsL.all fun x => !isRealL x) = true := by decide +kernel
            simpa using List.all_eq_true.1 this _ hs
          unfold kindOf
          rw [not_word (by rw [hhd]; exact hL'), not_name (by rw [hhd]; exact hL'), not_int (by rw [hhd]; exact hD'), h46, h2.2]; simp
        rw [he, hk]
        simp [h2.1, h2.2]
      · have he : endOf l = 1 := by unfold endOf; rw [if_neg hL, if_neg hD, if_neg h2]
        have hx : (decide (2 ≤ l.length) && isSign (l.take 2)) = false := by
          rw [Bool.eq_false_iff]; intro h; simp at h; exact h2 h
        rw [he, hx]
        cases l with
        | nil => exact absurd rfl hne
        | cons c r =>
          simp only [List.head?_cons]
          have hc := one_sign c
          have ht : (c :: r).take 1 = [c] := rfl
          rw [ht]
          have hr : isRealL [c] = false := by
            unfold isRealL
            by_cases h : c == 46
            · simp [h, isIntL]
            · simp [h]
          have hk : kindOf [c] = if isSign [c] = true then 5 else 0 := by
            unfold kindOf
            rw [not_word (l := [c]) hL', not_name (l := [c]) hL', not_int (l := [c]) hD', hr]; simp
          rw [hk]
          have hm := ones_mem c
          cases hs : isSign [c] with
          | true => rw [hs] at hm hc; simp [hm.2 rfl]
          | false => rw [hs] at hm hc; simp at hm; simp [hm]

theorem tok_zero (l : List UInt8) (hne : l ≠ []) : (tokOf l).1 = 0 ↔ kindOf (l.take (endOf l)) = 0 := by
  rw [tok_eq l hne]
  have := (endOf_le l hne).2
  split
  · rename_i h; simp [h]
  · rename_i h
    constructor
    · intro h'; have h' : endOf l = 0 := h'; omega
    · intro h'; exact absurd h' h

theorem go_eq (n : Nat) : ∀ (l : List UInt8) (p : Nat) (ts : List Tok) (f f' : Nat), l.length ≤ n → l.length < f → l.length < f' →
    rscanGo f' l p ts = scanGo f (l.drop (tw isBl l)) (p + tw isBl l) ts := by
  induction n with
  | zero =>
    intro l p ts f f' hn hf hf'
    obtain rfl : l = [] := List.eq_nil_of_length_eq_zero (by omega)
    obtain ⟨f, rfl⟩ : ∃ g, f = g + 1 := ⟨f - 1, by omega⟩
    obtain ⟨f', rfl⟩ : ∃ g, f' = g + 1 := ⟨f' - 1, by omega⟩
    simp [rscanGo, scanGo]
  | succ n ih =>
    intro l p ts f f' hn hf hf'
    obtain ⟨f', rfl⟩ : ∃ g, f' = g + 1 := ⟨f' - 1, by omega⟩
    by_cases hne : l = []
    · subst hne
      obtain ⟨f, rfl⟩ : ∃ g, f = g + 1 := ⟨f - 1, by omega⟩
      simp [rscanGo, scanGo]
    · have hlen : 1 ≤ l.length := by cases l with | nil => exact absurd rfl hne | cons c l => simp
      simp only [rscanGo]
      rw [if_neg hne]
      by_cases hb : isBl (hd0 l) = true
      · rw [if_pos hb, ih (l.drop 1) (p + 1) ts f f' (by rw [List.length_drop]; omega) (by rw [List.length_drop]; omega) (by rw [List.length_drop]; omega)]
        cases l with
        | nil => exact absurd rfl hne
        | cons c l =>
          rw [tw_yes isBl c l hb]
          simp only [List.drop_succ_cons, List.drop_zero]
          congr 1
          omega
      · rw [if_neg hb]
        have hb' : isBl (hd0 l) = false := by simpa using hb
        have h0 : tw isBl l = 0 := by
          cases l with
          | nil => rfl
          | cons c l => exact tw_no isBl c l hb'
        rw [h0, List.drop_zero, Nat.add_zero]
        obtain ⟨f, rfl⟩ : ∃ g, f = g + 1 := ⟨f - 1, by omega⟩
        simp only [scanGo]
        rw [if_neg hne]
        by_cases hk : kindOf (l.take (endOf l)) = 0
        · rw [if_pos hk, if_pos ((tok_zero l hne).2 hk)]
        · rw [if_neg hk, if_neg (fun h => hk ((tok_zero l hne).1 h))]
          by_cases h2 : ts.length = 2048
          · rw [if_pos h2, if_pos h2]
          · rw [if_neg h2, if_neg h2]
            have ht : tokOf l = (endOf l, kindOf (l.take (endOf l))) := by rw [tok_eq l hne, if_neg hk]
            rw [ht]
            have he := endOf_le l hne
            rw [ih (l.drop (endOf l)) _ _ f f' (by rw [List.length_drop]; omega) (by rw [List.length_drop]; omega) (by rw [List.length_drop]; omega), List.drop_drop]
theorem scan_eq (l : List UInt8) : rscan l = scan l := by
  unfold rscan scan
  split
  · rfl
  · rw [go_eq l.length l 0 [] (l.length + 1) (l.length + 1) (Nat.le_refl _) (by omega) (by omega), Nat.zero_add]
end

/-! Plain: what is true of all tokens that the scanner tells. -/
section
set_option linter.unusedVariables false
set_option linter.unusedSimpArgs false

/-- A text that is just one token, and nothing else. -/
def Whole (t : List UInt8) (k : Int) : Prop := t ≠ [] ∧ kindOf t = k ∧ k ≠ 0 ∧ endOf t = t.length
/-- Tokens of a text, up to a place. -/
def Good (l : List UInt8) : Nat → List Tok → Prop
  | p, ts => (∀ k (h : k < ts.length), Whole ts[k].text ts[k].kind ∧ ts[k].at_ + ts[k].text.length ≤ p ∧ (l.drop ts[k].at_).take ts[k].text.length = ts[k].text) ∧
      (∀ k (h : k + 1 < ts.length), ts[k].at_ + ts[k].text.length ≤ ts[k + 1].at_) ∧ p ≤ l.length

theorem tw_append (p : Int → Bool) (a b : List UInt8) : tw p (a ++ b) = if tw p a = a.length then a.length + tw p b else tw p a := by
  induction a with
  | nil => simp [tw]
  | cons c a ih =>
    cases h : p c.toNat with
    | true =>
      rw [List.cons_append, tw_yes p c _ h, tw_yes p c _ h, ih, List.length_cons]
      by_cases e : tw p a = a.length
      · rw [if_pos e, if_pos (by omega)]; omega
      · rw [if_neg e, if_neg (by omega)]
    | false =>
      rw [List.cons_append, tw_no p c _ h, tw_no p c _ h]; simp
theorem tw_take (p : Int → Bool) (l : List UInt8) (n : Nat) (h : tw p l ≤ n) : tw p (l.take n) = tw p l := by
  by_cases hn : n ≤ l.length
  · have := tw_append p (l.take n) (l.drop n)
    rw [List.take_append_drop] at this
    have hl := tw_le p (l.take n)
    rw [List.length_take, Nat.min_eq_left hn] at hl this
    by_cases e : tw p (l.take n) = n
    · rw [if_pos e] at this; omega
    · rw [if_neg e] at this; exact this.symm
  · rw [List.take_of_length_le (by omega)]
theorem drop_take_tw (l : List UInt8) (a n : Nat) : (l.take n).drop a = (l.drop a).take (n - a) := by rw [List.drop_take]

theorem endOf_take (l : List UInt8) (hne : l ≠ []) : endOf (l.take (endOf l)) = endOf l := by
  have h1 := (endOf_le l hne).2
  have hl := (endOf_le l hne).1
  generalize hn : endOf l = n at *
  have hh : hd0 (l.take n) = hd0 l := hd0_take h1
  unfold endOf at hn ⊢
  rw [hh]
  by_cases hL : isLe (hd0 l) = true
  · rw [if_pos hL] at hn ⊢
    rw [tw_take _ _ _ (by omega)]; exact hn
  · rw [if_neg hL] at hn ⊢
    by_cases hD : isDi (hd0 l) = true
    · rw [if_pos hD] at hn ⊢
      have h0 := (tw_pos (p := isDi) hne).2 hD
      by_cases hx : hd0 (l.drop (tw isDi l)) = 46 ∧ isDi (hd0 (l.drop (tw isDi l + 1))) = true
      · rw [if_pos hx] at hn
        have hne2 : l.drop (tw isDi l + 1) ≠ [] := by intro h; rw [h] at hx; exact absurd hx.2 (by decide)
        have hk := (tw_pos (p := isDi) hne2).2 hx.2
        have ht : tw isDi (l.take n) = tw isDi l := tw_take _ _ _ (by omega)
        rw [ht, drop_take_tw, drop_take_tw, hd0_take (by omega), hd0_take (by omega), if_pos hx, tw_take _ _ _ (by omega)]
        exact hn
      · rw [if_neg hx] at hn
        have ht : tw isDi (l.take n) = tw isDi l := tw_take _ _ _ (by omega)
        rw [ht]
        have hd : (l.take n).drop (tw isDi l + 1) = [] := List.drop_of_length_le (by rw [List.length_take]; omega)
        rw [hd, if_neg (fun h => absurd h.2 (by decide))]
        exact hn
    · rw [if_neg hD] at hn ⊢
      by_cases hx : 2 ≤ l.length ∧ isSign (l.take 2) = true
      · rw [if_pos hx] at hn
        subst hn
        rw [List.take_take, if_pos ⟨by rw [List.length_take]; omega, hx.2⟩]
      · rw [if_neg hx] at hn
        subst hn
        rw [if_neg (fun h => by have := h.1; rw [List.length_take] at this; omega)]

theorem whole_of_tok {l : List UInt8} {n : Nat} {k : Int} (hne : l ≠ []) (h : tokOf l = (n, k)) (hn : n ≠ 0) : Whole (l.take n) k ∧ n = endOf l := by
  rw [tok_eq l hne] at h
  have hl := endOf_le l hne
  by_cases hk : kindOf (l.take (endOf l)) = 0
  · rw [if_pos hk] at h; injection h with h1 h2; exact absurd h1.symm hn
  · rw [if_neg hk] at h
    injection h with h1 h2
    subst h1
    refine ⟨⟨?_, h2, h2 ▸ hk, ?_⟩, rfl⟩
    · intro e; have := congrArg List.length e; rw [List.length_take, List.length_nil] at this; omega
    · rw [endOf_take l hne, List.length_take]; omega

theorem good_go (l : List UInt8) : ∀ (f : Nat) (p : Nat) (ts : List Tok), Good l p ts → ∀ r e q, scanGo f (l.drop p) p ts = (r, e, q) → e = 0 → ∃ p', Good l p' r := by
  intro f
  induction f with
  | zero => intro p ts hg r e q h he; simp [scanGo] at h; exact ⟨p, h.1 ▸ hg⟩
  | succ f ih =>
    intro p ts hg r e q h he
    simp only [scanGo] at h
    by_cases hne : l.drop p = []
    · rw [if_pos hne] at h; injection h with h1 h2; exact ⟨p, h1 ▸ hg⟩
    · rw [if_neg hne] at h
      generalize ht : tokOf (l.drop p) = t at *
      obtain ⟨n, k⟩ := t
      by_cases hn : n = 0
      · rw [if_pos hn] at h; injection h with h1 h2; injection h2 with h2 h3; omega
      · rw [if_neg hn] at h
        by_cases hl : ts.length = 2048
        · rw [if_pos hl] at h; injection h with h1 h2; injection h2 with h2 h3; omega
        · rw [if_neg hl] at h
          obtain ⟨hw, hnl⟩ := whole_of_tok hne ht hn
          have hlen := tokOf_le (l.drop p)
          rw [ht, List.length_drop] at hlen
          have hlen : n ≤ l.length - p := hlen
          have hpl := hg.2.2
          have hpl2 : p < l.length := by
            by_cases hc : p < l.length
            · exact hc
            · exact absurd (List.drop_of_length_le (by omega)) hne
          have hbl := tw_le isBl ((l.drop p).drop n)
          rw [List.length_drop, List.length_drop] at hbl
          generalize tw isBl ((l.drop p).drop n) = b at *
          rw [List.drop_drop, show p + (n + b) = p + n + b by omega] at h
          refine ih (p + n + b) _ ?_ r e q h he
          have htl : ((l.drop p).take n).length = n := by rw [List.length_take, List.length_drop]; omega
          refine ⟨fun j hj => ?_, fun j hj => ?_, by omega⟩
          · rw [List.length_append, List.length_singleton] at hj
            by_cases hjl : j < ts.length
            · rw [List.getElem_append_left hjl]
              obtain ⟨g1, g2, g3⟩ := hg.1 j hjl
              exact ⟨g1, by omega, g3⟩
            · obtain rfl : j = ts.length := by omega
              rw [List.getElem_concat_length rfl]
              refine ⟨hw, ?_, ?_⟩
              · show p + ((l.drop p).take n).length ≤ _; omega
              · show (l.drop p).take ((l.drop p).take n).length = _; rw [htl]
          · rw [List.length_append, List.length_singleton] at hj
            have hjl : j < ts.length := by omega
            rw [List.getElem_append_left hjl]
            by_cases hjl2 : j + 1 < ts.length
            · rw [List.getElem_append_left hjl2]; exact hg.2.1 j hjl2
            · have : j + 1 = ts.length := by omega
              rw [List.getElem_append_right (by omega)]
              simp only [this, Nat.sub_self, List.getElem_cons_zero]
              exact (hg.1 j hjl).2.1

theorem scan_good (l : List UInt8) (h : (scan l).2.1 = 0) : ∃ p', Good l p' (scan l).1 := by
  generalize hr : scan l = R at *
  obtain ⟨r, e, q⟩ := R
  unfold scan at hr
  split at hr
  · injection hr with h1 h2; injection h2 with h2 h3; simp at h; omega
  · have hb := tw_le isBl l
    exact good_go l _ _ [] ⟨fun k hk => by simp at hk, fun k hk => by simp at hk, hb⟩ r e q hr h

theorem scan_count (l : List UInt8) : (scan l).1.length ≤ 2048 := by
  have : ∀ (f : Nat) (l : List UInt8) (p : Nat) (ts : List Tok), ts.length ≤ 2048 → (scanGo f l p ts).1.length ≤ 2048 := by
    intro f
    induction f with
    | zero => intro l p ts h; exact h
    | succ f ih =>
      intro l p ts h
      simp only [scanGo]
      repeat' split
      all_goals first | exact h | exact Nat.zero_le _ | exact ih _ _ _ (by rw [List.length_append, List.length_singleton]; omega)
  unfold scan
  split
  · simp
  · exact this _ _ _ _ (by simp)

theorem scan_ends (l : List UInt8) : ((scan l).2.1 = 0 → (scan l).2.2 = 0) ∧ ((scan l).2.1 ≠ 0 → (scan l).1 = []) := by
  have : ∀ (f : Nat) (l : List UInt8) (p : Nat) (ts : List Tok), ((scanGo f l p ts).2.1 = 0 → (scanGo f l p ts).2.2 = 0) ∧ ((scanGo f l p ts).2.1 ≠ 0 → (scanGo f l p ts).1 = []) := by
    intro f
    induction f with
    | zero => intro l p ts; exact ⟨fun _ => rfl, fun h => absurd rfl h⟩
    | succ f ih =>
      intro l p ts
      simp only [scanGo]
      repeat' split
      · exact ⟨fun _ => rfl, fun h => absurd rfl h⟩
      · exact ⟨fun h => absurd (show (3 : Int) = 0 from h) (by decide), fun _ => rfl⟩
      · exact ⟨fun h => absurd (show (5 : Int) = 0 from h) (by decide), fun _ => rfl⟩
      · exact ih _ _ _
  unfold scan
  split
  · exact ⟨fun h => absurd (show (5 : Int) = 0 from h) (by decide), fun _ => rfl⟩
  · exact this _ _ _ _
/-! ### Tokens with blanks between them -/
def Blanks (b : List UInt8) : Prop := b ≠ [] ∧ (b.all fun c => isBl c.toNat) = true
inductive Sep : List UInt8 → List Tok → Prop
  | nil : Sep [] []
  | last (t : Tok) : Whole t.text t.kind → Sep t.text [t]
  | cons (t : Tok) (b r : List UInt8) (ts : List Tok) : Whole t.text t.kind → Blanks b → Sep r ts → Sep (t.text ++ (b ++ r)) (t :: ts)

theorem sign_blank (c : UInt8) (b : UInt8) (h : isBl b.toNat = true) : isSign [c, b] = false := by
  rw [Bool.eq_false_iff]
  intro hs
  unfold isSign at hs
  rw [List.contains_iff_mem] at hs
  have : (signsL.all fun x => !isBl (hd0 (x.drop 1))) = true := by decide +kernel
  have := List.all_eq_true.1 this _ hs
  simp only [List.drop_succ_cons, List.drop_zero, hd0, h] at this
  exact absurd this (by simp)
theorem bl_not (r : Int) (h : isBl r = true) : inNm r = false ∧ isDi r = false ∧ r ≠ 46 := by
  unfold isBl at h
  unfold inNm isLe isDi
  simp at h ⊢
  omega
theorem hd0_append (a b : List UInt8) (h : a ≠ []) : hd0 (a ++ b) = hd0 a := by
  cases a with
  | nil => exact absurd rfl h
  | cons c a => rfl

/-- Where a token ends plays no part what stands behind a blank. -/
theorem endOf_sep (t : List UInt8) (b : UInt8) (r : List UInt8) (hne : t ≠ []) (he : endOf t = t.length) (hb : isBl b.toNat = true) : endOf (t ++ b :: r) = t.length := by
  obtain ⟨hb1, hb2, hb3⟩ := bl_not _ hb
  have hp : 1 ≤ t.length := by cases t with | nil => exact absurd rfl hne | cons c t => simp
  have hh : hd0 (t ++ b :: r) = hd0 t := hd0_append _ _ hne
  unfold endOf at he ⊢
  rw [hh]
  by_cases hL : isLe (hd0 t) = true
  · rw [if_pos hL] at he ⊢
    rw [tw_append, if_pos he, tw_no inNm b r hb1]; rfl
  · rw [if_neg hL] at he ⊢
    by_cases hD : isDi (hd0 t) = true
    · rw [if_pos hD] at he ⊢
      have htl := tw_le isDi t
      by_cases hx : hd0 (t.drop (tw isDi t)) = 46 ∧ isDi (hd0 (t.drop (tw isDi t + 1))) = true
      · rw [if_pos hx] at he
        have hne2 : t.drop (tw isDi t + 1) ≠ [] := by intro h; rw [h] at hx; exact absurd hx.2 (by decide)
        have hlt : tw isDi t + 1 < t.length := by
          by_cases hc : tw isDi t + 1 < t.length
          · exact hc
          · exact absurd (List.drop_of_length_le (by omega)) hne2
        have e1 : tw isDi (t ++ b :: r) = tw isDi t := by rw [tw_append, if_neg (by omega)]
        have e2 : (t ++ b :: r).drop (tw isDi t) = t.drop (tw isDi t) ++ b :: r := List.drop_append_of_le_length (by omega)
        have e3 : (t ++ b :: r).drop (tw isDi t + 1) = t.drop (tw isDi t + 1) ++ b :: r := List.drop_append_of_le_length (by omega)
        have hne3 : t.drop (tw isDi t) ≠ [] := by intro h; rw [h] at hx; exact absurd hx.1 (by decide)
        rw [e1, e2, e3, hd0_append _ _ hne3, hd0_append _ _ hne2, if_pos hx, tw_append]
        have hl2 : (t.drop (tw isDi t + 1)).length = tw isDi (t.drop (tw isDi t + 1)) := by rw [List.length_drop]; omega
        rw [if_pos hl2.symm, tw_no isDi b r hb2, List.length_drop]
        omega
      · rw [if_neg hx] at he
        have e1 : tw isDi (t ++ b :: r) = t.length := by rw [tw_append, if_pos he, tw_no isDi b r hb2]; rfl
        have e2 : (t ++ b :: r).drop t.length = b :: r := List.drop_left
        rw [e1, e2, if_neg (fun h => hb3 h.1)]
    · rw [if_neg hD] at he ⊢
      by_cases hx : 2 ≤ t.length ∧ isSign (t.take 2) = true
      · rw [if_pos hx] at he
        rw [if_pos ⟨by rw [List.length_append]; omega, by rw [List.take_append_of_le_length hx.1]; exact hx.2⟩]
        exact he
      · rw [if_neg hx] at he
        match t, he with
        | [c], _ =>
          rw [if_neg (fun h => by
            have := h.2
            rw [show ([c] ++ b :: r).take 2 = [c, b] from rfl, sign_blank c b hb] at this
            exact absurd this (by simp))]
          rfl

theorem tok_of_whole (t r : List UInt8) (k : Int) (h : Whole t k) (hr : r = [] ∨ ∃ b r', r = b :: r' ∧ isBl b.toNat = true) : tokOf (t ++ r) = (t.length, k) := by
  obtain ⟨h1, h2, h3, h4⟩ := h
  have he : endOf (t ++ r) = t.length := by
    rcases hr with rfl | ⟨b, r', rfl, hb⟩
    · rw [List.append_nil]; exact h4
    · exact endOf_sep t b r' h1 h4 hb
  rw [tok_eq _ (by simp [h1]), he, List.take_left, h2, if_neg h3]

theorem whole_head {t : List UInt8} {k : Int} (h : Whole t k) : isBl (hd0 t) = false := by
  obtain ⟨h1, h2, h3, h4⟩ := h
  rw [Bool.eq_false_iff]
  intro hb
  obtain ⟨hb1, hb2, hb3⟩ := bl_not _ hb
  have hL : isLe (hd0 t) = false := by
    rw [Bool.eq_false_iff]; intro h
    unfold inNm at hb1; rw [h] at hb1; simp at hb1
  have he : endOf t = if 2 ≤ t.length ∧ isSign (t.take 2) = true then 2 else 1 := by
    unfold endOf; rw [if_neg (by rw [hL]; simp), if_neg (by rw [hb2]; simp)]
  have hs : ∀ x : List UInt8, isBl (hd0 x) = true → isSign x = false := by
    intro x hx
    rw [Bool.eq_false_iff]
    intro hs
    unfold isSign at hs
    rw [List.contains_iff_mem] at hs
    have : (signsL.all fun x => !isBl (hd0 x)) = true := by decide +kernel
    have := List.all_eq_true.1 this _ hs
    rw [hx] at this
    exact absurd this (by simp)
  have ht2 : isSign (t.take 2) = false := hs _ (by rw [hd0_take (by omega)]; exact hb)
  rw [if_neg (fun h => by rw [ht2] at h; exact absurd h.2 (by simp))] at he
  have hk : kindOf t = 0 := by
    unfold kindOf
    rw [not_word hL, not_name hL, not_int hb2, hs t hb]
    have hr : isRealL t = false := by
      match t, he.symm.trans h4 with
      | [c], _ =>
        unfold isRealL
        by_cases h : c == 46
        · simp [h, isIntL]
        · simp [h]
    rw [hr]; simp
  exact h3 (h2.symm.trans hk)

theorem sep_head {l : List UInt8} {ts : List Tok} (h : Sep l ts) : tw isBl l = 0 := by
  cases h with
  | nil => rfl
  | last t hw =>
    have := whole_head hw
    obtain ⟨h1, _⟩ := hw
    generalize t.text = x at *
    cases x with
    | nil => exact absurd rfl h1
    | cons c x => exact tw_no isBl c x this
  | cons t b r ts hw hb hs =>
    have := whole_head hw
    obtain ⟨h1, _⟩ := hw
    generalize t.text = x at *
    cases x with
    | nil => exact absurd rfl h1
    | cons c x => exact tw_no isBl c _ this

theorem go_sep : ∀ (ts : List Tok) (l : List UInt8), Sep l ts → ∀ (f p : Nat) (acc : List Tok), l.length < f → acc.length + ts.length ≤ 2048 →
    ∃ r, scanGo f l p acc = (acc ++ r, 0, 0) ∧ r.length = ts.length ∧ ∀ k (h1 : k < r.length) (h2 : k < ts.length), r[k].kind = ts[k].kind ∧ r[k].text = ts[k].text := by
  intro ts
  induction ts with
  | nil =>
    intro l hs f p acc hf hc
    cases hs
    obtain ⟨f, rfl⟩ : ∃ g, f = g + 1 := ⟨f - 1, by omega⟩
    exact ⟨[], by simp [scanGo], rfl, fun k h1 h2 => by simp at h1⟩
  | cons t ts ih =>
    intro l hs f p acc hf hc
    rw [List.length_cons] at hc
    obtain ⟨f, rfl⟩ : ∃ g, f = g + 1 := ⟨f - 1, by omega⟩
    have key : ∃ b r, l = t.text ++ (b ++ r) ∧ Whole t.text t.kind ∧ (b ++ r = [] ∨ ∃ c r', b ++ r = c :: r' ∧ isBl c.toNat = true) ∧ (b.all fun c => isBl c.toNat) = true ∧ Sep r ts := by
      cases hs with
      | last t hw => exact ⟨[], [], by simp, hw, Or.inl rfl, rfl, Sep.nil⟩
      | cons t b r ts hw hb hs =>
        refine ⟨b, r, rfl, hw, Or.inr ?_, hb.2, hs⟩
        obtain ⟨hb1, hb2⟩ := hb
        cases b with
        | nil => exact absurd rfl hb1
        | cons c b => simp at hb2; exact ⟨c, b ++ r, rfl, hb2.1⟩
    obtain ⟨b, r, rfl, hw, hbr, hb, hsr⟩ := key
    have htok := tok_of_whole t.text (b ++ r) t.kind hw hbr
    have hne : t.text ++ (b ++ r) ≠ [] := by have := hw.1; simp [this]
    have htl : t.text.length ≠ 0 := by intro h; exact hw.1 (List.eq_nil_of_length_eq_zero h)
    have hbl : tw isBl (b ++ r) = b.length := by rw [tw_append, if_pos (tw_all_eq hb), sep_head hsr]; rfl
    simp only [scanGo]
    rw [if_neg hne, htok, if_neg htl, if_neg (by omega), List.drop_left, hbl, List.take_left]
    have hd : (t.text ++ (b ++ r)).drop (t.text.length + b.length) = r := by
      rw [← List.append_assoc, ← List.length_append, List.drop_left]
    rw [hd]
    obtain ⟨r', h1, h2, h3⟩ := ih r hsr f (p + t.text.length + b.length) (acc ++ [⟨t.kind, t.text, p⟩]) (by simp only [List.length_append] at hf; omega) (by rw [List.length_append, List.length_singleton]; omega)
    refine ⟨⟨t.kind, t.text, p⟩ :: r', by rw [h1]; simp, by simp [h2], fun k hk1 hk2 => ?_⟩
    cases k with
    | zero => exact ⟨rfl, rfl⟩
    | succ k => simpa using h3 k (by simpa using hk1) (by simpa using hk2)

/-- A text of tokens with blanks between, and ahead, is scanned as these tokens. -/
theorem scan_sep (b l : List UInt8) (ts : List Tok) (hb : (b.all fun c => isBl c.toNat) = true) (hs : Sep l ts) (hl : (b ++ l).length ≤ 8192) (hc : ts.length ≤ 2048) :
    (scan (b ++ l)).2 = (0, 0) ∧ (scan (b ++ l)).1.length = ts.length ∧ ∀ k (h1 : k < (scan (b ++ l)).1.length) (h2 : k < ts.length), (scan (b ++ l)).1[k].kind = ts[k].kind ∧ (scan (b ++ l)).1[k].text = ts[k].text := by
  have hbl : tw isBl (b ++ l) = b.length := by rw [tw_append, if_pos (tw_all_eq hb), sep_head hs]; rfl
  have hsc : scan (b ++ l) = scanGo ((b ++ l).length + 1) l b.length [] := by
    unfold scan
    rw [if_neg (by omega), hbl, List.drop_left]
  obtain ⟨r, h1, h2, h3⟩ := go_sep ts l hs ((b ++ l).length + 1) b.length [] (by rw [List.length_append]; omega) (by simpa using hc)
  rw [hsc, h1]
  exact ⟨rfl, h2, h3⟩

/-- A name, or a word, is one token. -/
theorem whole_name {l : List UInt8} (h : isName l = true ∨ isWord l = true) : Whole l (if isWord l = true then 2 else 1) := by
  have hh : isLe (hd0 l) = true ∧ l ≠ [] ∧ (l.all fun c => inNm c.toNat) = true := by
    rcases h with h | h
    · unfold isName at h
      simp only [Bool.and_eq_true, decide_eq_true_eq] at h
      obtain ⟨⟨⟨⟨h1, h2⟩, h3⟩, h4⟩, h5⟩ := h
      refine ⟨h3, h1, ?_⟩
      rw [← tw_all]; simpa using h4
    · unfold isWord at h
      rw [List.contains_iff_mem] at h
      have : (wordsL.all fun x => isLe (hd0 x) && decide (x ≠ []) && x.all fun c => inNm c.toNat) = true := by decide +kernel
      have := List.all_eq_true.1 this l h
      simp only [Bool.and_eq_true, decide_eq_true_eq] at this
      exact ⟨this.1.1, this.1.2, this.2⟩
  obtain ⟨h1, h2, h3⟩ := hh
  refine ⟨h2, ?_, ?_, ?_⟩
  · unfold kindOf
    by_cases hw : isWord l = true
    · rw [if_pos hw, if_pos hw]
    · rw [if_neg hw, if_neg hw]
      rcases h with h | h
      · rw [if_pos h]
      · exact absurd h hw
  · split <;> decide
  · unfold endOf; rw [if_pos h1]; exact tw_all_eq h3
theorem scan_one {l : List UInt8} {k : Int} (h : Whole l k) (hl : l.length ≤ 8192) : scan l = ([⟨k, l, 0⟩], 0, 0) := by
  have htok := tok_of_whole l [] k h (Or.inl rfl)
  rw [List.append_nil] at htok
  have h0 : tw isBl l = 0 := sep_head (Sep.last ⟨k, l, 0⟩ h)
  have hlen : l.length ≠ 0 := fun e => h.1 (List.eq_nil_of_length_eq_zero e)
  unfold scan
  rw [if_neg (by omega), h0, List.drop_zero]
  simp only [scanGo]
  rw [if_neg h.1, htok]
  simp only [List.take_length, List.drop_length, tw_nil, Nat.add_zero, Nat.zero_add, List.nil_append]
  rw [if_neg hlen, if_neg (by simp)]
  generalize l.length = m at *
  cases m with
  | zero => exact absurd rfl hlen
  | succ m => simp [scanGo]
theorem name_of_scan {l : List UInt8} {ts : List Tok} (h : scan l = (ts, 0, 0)) (k : Nat) (hk : k < ts.length) (hx : ts[k].kind = 1 ∨ ts[k].kind = 2) : isName ts[k].text = true ∨ isWord ts[k].text = true := by
  obtain ⟨p, hg⟩ := scan_good l (by rw [h])
  rw [h] at hg
  obtain ⟨h1, h2, h3, h4⟩ := (hg.1 k hk).1
  unfold kindOf at h2
  by_cases hw : isWord ts[k].text = true
  · exact Or.inr hw
  · rw [if_neg hw] at h2
    by_cases hn : isName ts[k].text = true
    · exact Or.inl hn
    · rw [if_neg hn] at h2
      rcases hx with hx | hx <;> rw [hx] at h2 <;> (repeat' split at h2) <;> simp at h2
end
end Go.Proofs.YtokdcfehnhifhaaGreatDoor
