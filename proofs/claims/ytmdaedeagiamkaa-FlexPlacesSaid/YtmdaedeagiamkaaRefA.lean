/- The document's tokens (plumblineref04): what each function answers. -/
import Derived.Test.YtmdaedeagiamkaaFlexE
set_option linter.unusedVariables false
set_option linter.unusedSimpArgs false
namespace Go.Proofs.Ytmdaedeagiamkaa
open Go.RowKit

theorem rblank_calls (c : Int) (w : World) :
    Calls Try.prog 24 #[.int .u8 c] w fun e w' => e = .returned (.bool (isBl c)) ∧ w' = w := by
  go_enter Try.func24, Try.ntmps24
  go_wp2
  all_goals
    go_ret
    refine ⟨ret_bool ?_, rfl⟩
    unfold isBl
    rw [Bool.eq_iff_iff]
    simp
    omega
theorem rdigit_calls (c : Int) (w : World) :
    Calls Try.prog 30 #[.int .u8 c] w fun e w' => e = .returned (.bool (isDi c)) ∧ w' = w := by
  go_enter Try.func30, Try.ntmps30
  go_wp2
  all_goals
    go_ret
    exact ⟨ret_bool (by simp_all [isDi] <;> omega), rfl⟩
theorem rletter_calls (c : Int) (w : World) :
    Calls Try.prog 29 #[.int .u8 c] w fun e w' => e = .returned (.bool (isLe c)) ∧ w' = w := by
  go_enter Try.func29, Try.ntmps29
  go_wp2
  all_goals
    go_ret
    exact ⟨ret_bool (by simp_all [isLe] <;> omega), rfl⟩

theorem words_at (k : Nat) (h : k < 10) : wordsL.take (k + 1) = wordsL.take k ++ [(wordsB[k]?.getD ByteArray.empty).data.toList] := by
  rcases k with _ | _ | _ | _ | _ | _ | _ | _ | _ | _ | k <;> first | omega | rfl
theorem risWord_calls (s : ByteArray) (w : World) :
    Calls Try.prog 17 #[.string s] w fun e w' => e = .returned (.bool (isWord s.data.toList)) ∧ Below w.heap.size w w' := by
  go_enter Try.func17, Try.ntmps17
  go_wp2_with fail
  refine wp_named (fun W hb hc hz => ?_)
  have Hc := Lib.hid hc
  have Hb := Lib.hid hb
  clear hc hb hz
  go_loop [4] (fun i => ∃ k : Nat, k ≤ 10 ∧ i = .int .i64 k ∧ (wordsL.take k).contains s.data.toList = false) (fun i => 10 - (intOf i).toNat)
  case atStart => exact ⟨0, by omega, rfl, rfl⟩
  case round =>
    obtain ⟨k, hk, rfl, hno⟩ := hrel
    have Hno := Lib.hid hno
    clear hno
    by_cases hlt : k < 10
    · have hcell : W.cell? ⟨w.heap.size, k, none⟩ = some (.string (wordsB[k]?.getD ByteArray.empty)) :=
        Hc.out k _ (by rcases k with _ | _ | _ | _ | _ | _ | _ | _ | _ | _ | k <;> first | omega | rfl)
      have heq := toList_beq (wordsB[k]?.getD ByteArray.empty) s
      have hwa := words_at k hlt
      generalize wordsB[k]?.getD ByteArray.empty = x at *
      by_cases hx : x.data.toList = s.data.toList
      · rw [decide_eq_true hx] at heq
        have hr : isWord s.data.toList = true := by
          unfold isWord
          rw [← List.take_append_drop (k + 1) wordsL, hwa, hx]
          simp
        have Hr := Lib.hid hr
        clear hr hx hwa
        go_wp2_with fail
        go_ret
        exact ⟨ret_bool Hr.out.symm, Hb.out⟩
      · rw [decide_eq_false hx] at heq
        have hn : (wordsL.take (k + 1)).contains s.data.toList = false := by
          have := Hno.out
          rw [hwa]
          simp at this ⊢
          exact ⟨this, fun h => hx (by rw [h])⟩
        have Hn := Lib.hid hn
        clear hn hx hwa
        go_wp2_with fail
        go_round
        case rel => exact ⟨k + 1, by omega, by go_num, Hn.out⟩
        case measure => simp [intOf]; omega
    · obtain rfl : k = 10 := by omega
      go_wp2_with fail
      go_ret
      exact ⟨ret_bool Hno.out.symm, Hb.out⟩

theorem take_at (s : ByteArray) (k : Nat) (h : k < s.size) : s.data.toList.take (k + 1) = s.data.toList.take k ++ [s[k]] := by
  rw [List.take_succ_eq_append_getElem (by simpa using h)]; rfl
theorem tw_all (p : Int → Bool) (l : List UInt8) : decide (tw p l = l.length) = l.all fun c => p c.toNat := by
  induction l with
  | nil => rfl
  | cons c l ih =>
    cases h : p c.toNat with
    | true => rw [tw_yes p c l h, List.all_cons, h, Bool.true_and, ← ih]; simp
    | false => rw [tw_no p c l h, List.all_cons, h]; simp
theorem size_list (s : ByteArray) : s.data.toList.length = s.size := by simp
theorem hd0_at (s : ByteArray) (h1 : 0 < s.size) : ((s[0]'h1).toNat : Int) = hd0 s.data.toList := by
  obtain ⟨⟨l⟩⟩ := s
  cases l with
  | nil => simp [ByteArray.size] at h1
  | cons c l => rfl

theorem risName_calls (s : ByteArray) (w : World) (hs : s.size ≤ maxLen) :
    Calls Try.prog 15 #[.string s] w fun e w' => e = .returned (.bool (isName s.data.toList)) ∧ Below w.heap.size w w' := by
  have Hsz := Lib.hid hs
  unfold maxLen at hs
  have Hl := Lib.hid (size_list s)
  by_cases h0 : s.size = 0
  · obtain rfl := str_nil h0
    go_enter Try.func15, Try.ntmps15
    go_wp2
    go_ret
    exact ⟨rfl, Below.refl _ _⟩
  · have h1 : 1 ≤ s.size := by omega
    have hne := str_ne h1
    have Hne := Lib.hid (str_ne' h1)
    have Hhd := Lib.hid (hd0_at s h1)
    by_cases h16 : 16 < s.size
    · have hd : decide ((16 : Int) < (s.size : Int)) = true := by simp; omega
      go_enter Try.func15, Try.ntmps15
      go_wp2_with fail
      go_ret
      exact ⟨ret_bool (by simp [isName, Hl.out]; omega), Below.refl _ _⟩
    · have hd : decide ((16 : Int) < (s.size : Int)) = false := by simp; omega
      go_enter Try.func15, Try.ntmps15
      go_wp2_with fail
      rw [Hhd.out]
      refine (rletter_calls _ _).mono ?_
      rintro e w ⟨rfl, rfl⟩
      generalize hL : isLe (hd0 s.data.toList) = b at *
      have HL := Lib.hid hL
      clear hL
      cases b
      · go_wp2_with fail
        go_ret
        exact ⟨ret_bool (by simp [isName, HL.out]), Below.refl _ _⟩
      · go_wp2_with fail
        refine (risWord_calls _ _).mono ?_
        rintro e w1 ⟨rfl, hb1⟩
        have Hb1 := Lib.hid hb1
        clear hb1
        generalize hW : isWord s.data.toList = b at *
        have HW := Lib.hid hW
        clear hW
        cases b
        · have hfin : isName s.data.toList = s.data.toList.all fun c => inNm c.toNat := by
            rw [← tw_all]; simp [isName, HL.out, HW.out, Hne.out, Hl.out, Nat.not_lt.1 h16]
          have Hf := Lib.hid hfin
          clear hfin
          go_wp2_with fail
          go_loop [3] (fun i => ∃ k : Nat, k ≤ s.size ∧ i = .int .i64 k ∧ ((s.data.toList.take k).all fun c => inNm c.toNat) = true) (fun i => s.size - (intOf i).toNat)
          case atStart => exact ⟨0, by omega, rfl, rfl⟩
          case round =>
            obtain ⟨k, hk, rfl, hall⟩ := hrel
            have Hall := Lib.hid hall
            clear hall
            by_cases hlt : k < s.size
            · have hta := take_at s k hlt
              have hyes : inNm ((s[k]'hlt).toNat : Int) = true → ((s.data.toList.take (k + 1)).all fun c => inNm c.toNat) = true := by
                intro h; rw [hta, List.all_append, Hall.out]; simp [h]
              have hno : inNm ((s[k]'hlt).toNat : Int) = false → (s.data.toList.all fun c => inNm c.toNat) = false := by
                intro h
                rw [← List.take_append_drop (k + 1) s.data.toList, List.all_append, hta, List.all_append]
                simp [h]
              have Hy := Lib.hid hyes
              have Hn := Lib.hid hno
              clear hyes hno hta
              go_wp2_with fail
              refine (rletter_calls _ _).mono ?_
              rintro e w ⟨rfl, rfl⟩
              generalize hb1 : isLe ((s[k]'hlt).toNat : Int) = b1 at *
              have Hb1' := Lib.hid hb1
              clear hb1
              cases b1
              · go_wp2_with fail
                refine (rdigit_calls _ _).mono ?_
                rintro e w ⟨rfl, rfl⟩
                generalize hb2 : isDi ((s[k]'hlt).toNat : Int) = b2 at *
                have Hb2' := Lib.hid hb2
                clear hb2
                cases b2
                · by_cases h95 : ((s[k]'hlt).toNat : Int) = 95
                  · have hc1 : (((s[k]'hlt).toNat : Int) != 95) = false := by simp [h95]
                    have h := Hy.out (by rw [inNm, Hb1'.out, Hb2'.out, h95]; rfl)
                    have H := Lib.hid h
                    clear h h95
                    go_wp2_with fail
                    go_round
                    case rel => exact ⟨k + 1, by omega, by go_num, H.out⟩
                    case measure => simp [intOf]; omega
                  · have hc1 : (((s[k]'hlt).toNat : Int) != 95) = true := by simp [h95]
                    have h := Hn.out (by rw [inNm, Hb1'.out, Hb2'.out]; simp [h95])
                    have H := Lib.hid h
                    clear h h95
                    go_wp2_with fail
                    go_ret
                    exact ⟨ret_bool (by rw [Hf.out, H.out]), Hb1.out⟩
                · have h := Hy.out (by rw [inNm, Hb1'.out, Hb2'.out]; rfl)
                  have H := Lib.hid h
                  clear h
                  go_wp2_with fail
                  go_round
                  case rel => exact ⟨k + 1, by omega, by go_num, H.out⟩
                  case measure => simp [intOf]; omega
              · have h := Hy.out (by rw [inNm, Hb1'.out]; rfl)
                have H := Lib.hid h
                clear h
                go_wp2_with fail
                go_round
                case rel => exact ⟨k + 1, by omega, by go_num, H.out⟩
                case measure => simp [intOf]; omega
            · obtain rfl : k = s.size := by omega
              go_wp2_with fail
              go_ret
              refine ⟨ret_bool ?_, Hb1.out⟩
              have := Hall.out
              rw [← Hl.out, List.take_length] at this
              rw [Hf.out, this]
        · go_wp2_with fail
          go_ret
          exact ⟨ret_bool (by simp [isName, HW.out]), Hb1.out⟩
end Go.Proofs.Ytmdaedeagiamkaa
