/- Plain: the scanner and the document's scanner answer alike. -/
import Derived.Test.YtmdaedeagiamkaaRefC
set_option linter.unusedVariables false
set_option linter.unusedSimpArgs false
namespace Go.Proofs.Ytmdaedeagiamkaa

theorem tw_take_length (p : Int → Bool) (l : List UInt8) : (l.take (tw p l)).length = tw p l := by
  rw [List.length_take]; have := tw_le p l; omega
theorem tw_take_all (p : Int → Bool) (l : List UInt8) : ((l.take (tw p l)).all fun c => p c.toNat) = true := by
  induction l with
  | nil => rfl
  | cons c l ih =>
    cases h : p c.toNat with
    | true => rw [tw_yes p c l h]; simp [h] at ih ⊢; exact ih
    | false => rw [tw_no p c l h]; rfl
theorem tw_all_eq {p : Int → Bool} {l : List UInt8} (h : (l.all fun c => p c.toNat) = true) : tw p l = l.length := by
  have := tw_all p l
  rw [h] at this
  exact of_decide_eq_true this
theorem hd0_take {l : List UInt8} {n : Nat} (h : 1 ≤ n) : hd0 (l.take n) = hd0 l := by
  cases l with
  | nil => simp
  | cons c l => cases n with
    | zero => omega
    | succ n => rfl
theorem tw_pos {p : Int → Bool} {l : List UInt8} (hne : l ≠ []) : 1 ≤ tw p l ↔ p (hd0 l) = true := by
  cases l with
  | nil => exact absurd rfl hne
  | cons c l =>
    cases h : p c.toNat with
    | true => rw [tw_yes p c l h]; simp [hd0, h]
    | false => rw [tw_no p c l h]; simp [hd0, h]
theorem tw_drop_no (p : Int → Bool) (l : List UInt8) (hne : l.drop (tw p l) ≠ []) : p (hd0 (l.drop (tw p l))) = false := by
  induction l with
  | nil => simp at hne
  | cons c l ih =>
    cases h : p c.toNat with
    | true => rw [tw_yes p c l h] at hne ⊢; exact ih hne
    | false => rw [tw_no p c l h]; exact h
theorem word_head : (wordsL.all fun x => isLe (hd0 x) && decide (x ≠ [])) = true := by decide +kernel
theorem sign_head : (signsL.all fun x => !isLe (hd0 x) && !isDi (hd0 x) && decide (x ≠ []) && decide (x.length ≤ 2)) = true := by decide +kernel
theorem not_word {l : List UInt8} (h : isLe (hd0 l) = false) : isWord l = false := by
  rw [Bool.eq_false_iff]
  intro hw
  unfold isWord at hw
  rw [List.contains_iff_mem] at hw
  have := List.all_eq_true.1 word_head l hw
  rw [h] at this
  simp at this
theorem not_sign {l : List UInt8} (h : isLe (hd0 l) = true ∨ isDi (hd0 l) = true) : isSign l = false := by
  rw [Bool.eq_false_iff]
  intro hw
  unfold isSign at hw
  rw [List.contains_iff_mem] at hw
  have := List.all_eq_true.1 sign_head l hw
  rcases h with h | h <;> rw [h] at this <;> simp at this
theorem not_name {l : List UInt8} (h : isLe (hd0 l) = false) : isName l = false := by simp [isName, h]
theorem le_di (r : Int) (h : isLe r = true) : isDi r = false := by
  unfold isLe at h; unfold isDi; simp at h ⊢; omega
theorem di_le (r : Int) (h : isDi r = true) : isLe r = false := by
  unfold isDi at h; unfold isLe; simp at h ⊢; omega
theorem not_int {l : List UInt8} (h : isDi (hd0 l) = false) : isIntL l = false := by
  cases l with
  | nil => rfl
  | cons c l => simp only [hd0] at h; simp [isIntL, h]
theorem find46_none {l : List UInt8} {p : Int → Bool} (hp : p 46 = false) (h : (l.all fun c => p c.toNat) = true) : l.findIdx? (· == 46) = none := by
  apply findIdx_none
  rw [List.any_eq_false]
  intro x hx hc
  have := List.all_eq_true.1 h x hx
  simp at hc
  subst hc
  have h46 : p (((46 : UInt8).toNat : Nat) : Int) = false := hp
  rw [h46] at this
  exact absurd this (by simp)
theorem u8_of_int {c : UInt8} {n : Nat} (hn : n < 256) (h : (c.toNat : Int) = n) : c = UInt8.ofNat n := by
  apply UInt8.toNat_inj.1
  rw [UInt8.toNat_ofNat']
  omega

theorem prefix_dot (l : List UInt8) : Lib.hasPrefix l [46] = true ↔ hd0 l = 46 := by
  cases l with
  | nil => simp [Lib.hasPrefix, hd0]
  | cons c l =>
    simp only [Lib.hasPrefix, hd0]
    constructor
    · intro h
      simp at h
      subst h; rfl
    · intro h
      have : c = 46 := u8_of_int (n := 46) (by omega) h
      subst this; simp
theorem num_eq (l : List UInt8) (hne : l ≠ []) (hD : isDi (hd0 l) = true) :
    numOf l = if kindOf (l.take (endOf l)) = 0 then (0, 0) else (endOf l, kindOf (l.take (endOf l))) := by
  have hL := di_le _ hD
  have h0 : 1 ≤ tw isDi l := (tw_pos hne).2 hD
  have hln := tw_take_length isDi l
  have hall := tw_take_all isDi l
  have hE : endOf l = (if hd0 (l.drop (tw isDi l)) = 46 ∧ isDi (hd0 (l.drop (tw isDi l + 1))) = true then tw isDi l + 1 + tw isDi (l.drop (tw isDi l + 1)) else tw isDi l) := by
    unfold endOf; rw [if_neg (by rw [hL]; simp), if_pos hD]
  unfold numOf
  by_cases h46 : hd0 (l.drop (tw isDi l)) = 46
  · by_cases hd2 : isDi (hd0 (l.drop (tw isDi l + 1))) = true
    · have hne2 : l.drop (tw isDi l + 1) ≠ [] := by intro h; rw [h] at hd2; exact absurd hd2 (by decide)
      have hk : 0 < tw isDi (l.drop (tw isDi l + 1)) := (tw_pos hne2).2 hd2
      have hE' := hE.trans (if_pos ⟨h46, hd2⟩)
      rw [if_pos ⟨(prefix_dot _).2 h46, hk⟩, hE']
      clear hE hE'
      generalize hn : tw isDi l = n at *
      generalize hm : tw isDi (l.drop (n + 1)) = m at *
      have hall2 := tw_take_all isDi (l.drop (n + 1))
      rw [hm] at hall2
      have hlen2 : n + 1 + m ≤ l.length := by
        have := tw_le isDi (l.drop (n + 1)); rw [hm, List.length_drop] at this
        have : n + 1 < l.length := by
          by_cases h : n + 1 < l.length
          · exact h
          · exact absurd (List.drop_of_length_le (by omega)) hne2
        omega
      have hsplit : l.take (n + 1 + m) = l.take n ++ 46 :: (l.drop (n + 1)).take m := by
        rw [List.take_add, List.take_add, List.append_assoc]
        congr 1
        have : (l.drop n).take 1 = [46] := by
          cases hd : l.drop n with
          | nil => rw [hd] at h46; simp [hd0] at h46
          | cons c r => rw [hd] at h46; rw [u8_of_int (n := 46) (by omega) (h46 : (c.toNat : Int) = 46)]; rfl
        rw [this]; rfl
      have hhd : hd0 (l.take (n + 1 + m)) = hd0 l := hd0_take (by omega)
      have hint : isIntL (l.take (n + 1 + m)) = false := by
        rw [hsplit, isIntL, List.all_append, List.all_cons]; simp [show isDi 46 = false by decide]
      have hreal : isRealL (l.take (n + 1 + m)) = true := by
        have hf : (l.take (n + 1 + m)).findIdx? (· == 46) = some n := by
          apply findIdx_at _ n (by rw [List.length_take]; omega)
          · rw [List.take_take, Nat.min_eq_left (by omega), List.any_eq_false]
            intro x hx hc
            have := List.all_eq_true.1 hall x hx
            simp at hc
            subst hc
            exact absurd this (by decide)
          · have : (l.take (n + 1 + m))[n]? = some 46 := by
              rw [hsplit, List.getElem?_append_right (by omega), hln]; simp
            rw [List.getElem?_eq_some_iff] at this
            exact this.2
        unfold isRealL
        rw [hf]
        show (isIntL ((l.take (n + 1 + m)).take n) && isIntL ((l.take (n + 1 + m)).drop (n + 1))) = true
        have h1 : (l.take (n + 1 + m)).take n = l.take n := by rw [List.take_take, Nat.min_eq_left (by omega)]
        have h2 : (l.take (n + 1 + m)).drop (n + 1) = (l.drop (n + 1)).take m := by
          rw [List.drop_take]; congr 1; omega
        rw [h1, h2]
        unfold isIntL
        rw [hall, hall2]
        have e1 : l.take n ≠ [] := by intro h; rw [h] at hln; simp at hln; omega
        have e2 : (l.drop (n + 1)).take m ≠ [] := by
          intro h; rw [List.take_eq_nil_iff] at h
          rcases h with h | h
          · omega
          · exact hne2 h
        simp [e1, e2]
      have hkind : kindOf (l.take (n + 1 + m)) = 4 := by
        unfold kindOf
        rw [not_word (by rw [hhd]; exact hL), not_name (by rw [hhd]; exact hL), hint, hreal]; simp
      rw [hkind]; simp
    · have hk : ¬ 0 < tw isDi (l.drop (tw isDi l + 1)) := by
        intro h
        by_cases hne2 : l.drop (tw isDi l + 1) = []
        · rw [hne2] at h; simp [tw] at h
        · exact hd2 ((tw_pos hne2).1 h)
      have hE' := hE.trans (if_neg (fun h => hd2 h.2))
      rw [if_neg (fun h => hk h.2), hE']
      have hhd : hd0 (l.take (tw isDi l)) = hd0 l := hd0_take h0
      have hkind : kindOf (l.take (tw isDi l)) = 3 := by
        unfold kindOf
        rw [not_word (by rw [hhd]; exact hL), not_name (by rw [hhd]; exact hL)]
        have e1 : l.take (tw isDi l) ≠ [] := by intro h; rw [h] at hln; simp at hln; omega
        unfold isIntL
        rw [hall]; simp [e1]
      rw [hkind]; simp
  · have hE' := hE.trans (if_neg (fun h => h46 h.1))
    rw [if_neg (fun h => h46 ((prefix_dot _).1 h.1)), hE']
    have hhd : hd0 (l.take (tw isDi l)) = hd0 l := hd0_take h0
    have hkind : kindOf (l.take (tw isDi l)) = 3 := by
      unfold kindOf
      rw [not_word (by rw [hhd]; exact hL), not_name (by rw [hhd]; exact hL)]
      have e1 : l.take (tw isDi l) ≠ [] := by intro h; rw [h] at hln; simp at hln; omega
      unfold isIntL
      rw [hall]; simp [e1]
    rw [hkind]; simp

theorem twos_two (l : List UInt8) : (twosL.any (Lib.hasPrefix l)) = (decide (2 ≤ l.length) && isSign (l.take 2)) := by
  match l with
  | [] => decide
  | [c] => simp [twosL, Lib.hasPrefix, List.isPrefixOf]
  | a :: b :: r =>
    simp only [twosL, Lib.hasPrefix, isSign, signsL, List.take, List.length_cons, List.any_cons, List.any_nil, List.isPrefixOf, Bool.and_true, Bool.or_false]
    rw [Bool.eq_iff_iff]
    simp
    constructor
    · rintro (⟨rfl, rfl⟩ | ⟨rfl, rfl⟩ | ⟨rfl, rfl⟩ | ⟨rfl, rfl⟩ | ⟨rfl, rfl⟩ | ⟨rfl, rfl⟩) <;> simp
    · rintro (⟨rfl, rfl⟩ | ⟨rfl, rfl⟩ | ⟨rfl, rfl⟩ | ⟨rfl, rfl⟩ | ⟨rfl, rfl⟩ | ⟨rfl, rfl⟩) <;> simp
theorem one_sign (c : UInt8) : (onesL.any fun x => some c == some x) = isSign [c] := by
  simp only [onesL, isSign, signsL]
  rw [Bool.eq_iff_iff]
  simp
theorem ones_mem (c : UInt8) : c ∈ onesL ↔ isSign [c] = true := by
  rw [← one_sign, List.any_eq_true]
  constructor
  · intro h; exact ⟨c, h, by simp⟩
  · rintro ⟨x, hx, h⟩; simp at h; rw [h]; exact hx

theorem tok_eq (l : List UInt8) (hne : l ≠ []) :
    tokOf l = if kindOf (l.take (endOf l)) = 0 then (0, 0) else (endOf l, kindOf (l.take (endOf l))) := by
  by_cases hL : isLe (hd0 l) = true
  · have hn1 : 1 ≤ tw inNm l := (tw_pos hne).2 (by unfold inNm; rw [hL]; rfl)
    have he : endOf l = tw inNm l := by unfold endOf; rw [if_pos hL]
    have hhd : hd0 (l.take (tw inNm l)) = hd0 l := hd0_take hn1
    have hln := tw_take_length inNm l
    have hall := tw_take_all inNm l
    have hne' : l.take (tw inNm l) ≠ [] := by intro h; rw [h] at hln; simp at hln; omega
    unfold tokOf
    rw [if_pos hL, he]
    by_cases hw : isWord (l.take (tw inNm l)) = true
    · have hk : kindOf (l.take (tw inNm l)) = 2 := by unfold kindOf; rw [if_pos hw]
      rw [if_pos hw, hk]; simp
    · rw [if_neg hw]
      by_cases h16 : 16 < tw inNm l
      · have hnm : isName (l.take (tw inNm l)) = false := by
          unfold isName; rw [hln]; simp; omega
        have hk : kindOf (l.take (tw inNm l)) = 0 := by
          unfold kindOf
          rw [if_neg hw, hnm, not_int (by rw [hhd]; exact le_di _ hL), not_sign (by rw [hhd]; exact Or.inl hL)]
          have : isRealL (l.take (tw inNm l)) = false := by
            unfold isRealL
            rw [find46_none (p := inNm) (by decide) hall]
          rw [this]; simp
        rw [if_pos h16, hk]; simp
      · have hnm : isName (l.take (tw inNm l)) = true := by
          unfold isName
          rw [hln, hhd, hL, tw_all_eq hall, hln]
          simp [hw, hne']
          omega
        have hk : kindOf (l.take (tw inNm l)) = 1 := by
          unfold kindOf; rw [if_neg hw, if_pos hnm]
        rw [if_neg h16, hk]; simp
  · have hL' : isLe (hd0 l) = false := by simpa using hL
    by_cases hD : isDi (hd0 l) = true
    · unfold tokOf
      rw [if_neg hL, if_pos hD]
      exact num_eq l hne hD
    · have hD' : isDi (hd0 l) = false := by simpa using hD
      unfold tokOf
      rw [if_neg hL, if_neg hD]
      unfold signOf
      rw [twos_two]
      by_cases h2 : 2 ≤ l.length ∧ isSign (l.take 2) = true
      · have he : endOf l = 2 := by unfold endOf; rw [if_neg hL, if_neg hD, if_pos h2]
        have hhd : hd0 (l.take 2) = hd0 l := hd0_take (by omega)
        have hk : kindOf (l.take 2) = 5 := by
          have h46 : isRealL (l.take 2) = false := by
            have hs := h2.2
            unfold isSign at hs
            rw [List.contains_iff_mem] at hs
            have : (signsL.all fun x => !isRealL x) = true := by decide +kernel
            simpa using List.all_eq_true.1 this _ hs
          unfold kindOf
          rw [not_word (by rw [hhd]; exact hL'), not_name (by rw [hhd]; exact hL'), not_int (by rw [hhd]; exact hD'), h46, h2.2]; simp
        rw [he, hk]
        simp [h2.1, h2.2]
      · have he : endOf l = 1 := by unfold endOf; rw [if_neg hL, if_neg hD, if_neg h2]
        have hx : (decide (2 ≤ l.length) && isSign (l.take 2)) = false := by
          rw [Bool.eq_false_iff]; intro h; simp at h; exact h2 h
        rw [he, hx]
        cases l with
        | nil => exact absurd rfl hne
        | cons c r =>
          simp only [List.head?_cons]
          have hc := one_sign c
          have ht : (c :: r).take 1 = [c] := rfl
          rw [ht]
          have hr : isRealL [c] = false := by
            unfold isRealL
            by_cases h : c == 46
            · simp [h, isIntL]
            · simp [h]
          have hk : kindOf [c] = if isSign [c] = true then 5 else 0 := by
            unfold kindOf
            rw [not_word (l := [c]) hL', not_name (l := [c]) hL', not_int (l := [c]) hD', hr]; simp
          rw [hk]
          have hm := ones_mem c
          cases hs : isSign [c] with
          | true => rw [hs] at hm hc; simp [hm.2 rfl]
          | false => rw [hs] at hm hc; simp at hm; simp [hm]

theorem tok_zero (l : List UInt8) (hne : l ≠ []) : (tokOf l).1 = 0 ↔ kindOf (l.take (endOf l)) = 0 := by
  rw [tok_eq l hne]
  have := (endOf_le l hne).2
  split
  · rename_i h; simp [h]
  · rename_i h
    constructor
    · intro h'; have h' : endOf l = 0 := h'; omega
    · intro h'; exact absurd h' h

theorem go_eq (n : Nat) : ∀ (l : List UInt8) (p : Nat) (ts : List Tok) (f f' : Nat), l.length ≤ n → l.length < f → l.length < f' →
    rscanGo f' l p ts = scanGo f (l.drop (tw isBl l)) (p + tw isBl l) ts := by
  induction n with
  | zero =>
    intro l p ts f f' hn hf hf'
    obtain rfl : l = [] := List.eq_nil_of_length_eq_zero (by omega)
    obtain ⟨f, rfl⟩ : ∃ g, f = g + 1 := ⟨f - 1, by omega⟩
    obtain ⟨f', rfl⟩ : ∃ g, f' = g + 1 := ⟨f' - 1, by omega⟩
    simp [rscanGo, scanGo]
  | succ n ih =>
    intro l p ts f f' hn hf hf'
    obtain ⟨f', rfl⟩ : ∃ g, f' = g + 1 := ⟨f' - 1, by omega⟩
    by_cases hne : l = []
    · subst hne
      obtain ⟨f, rfl⟩ : ∃ g, f = g + 1 := ⟨f - 1, by omega⟩
      simp [rscanGo, scanGo]
    · have hlen : 1 ≤ l.length := by cases l with | nil => exact absurd rfl hne | cons c l => simp
      simp only [rscanGo]
      rw [if_neg hne]
      by_cases hb : isBl (hd0 l) = true
      · rw [if_pos hb, ih (l.drop 1) (p + 1) ts f f' (by rw [List.length_drop]; omega) (by rw [List.length_drop]; omega) (by rw [List.length_drop]; omega)]
        cases l with
        | nil => exact absurd rfl hne
        | cons c l =>
          rw [tw_yes isBl c l hb]
          simp only [List.drop_succ_cons, List.drop_zero]
          congr 1
          omega
      · rw [if_neg hb]
        have hb' : isBl (hd0 l) = false := by simpa using hb
        have h0 : tw isBl l = 0 := by
          cases l with
          | nil => rfl
          | cons c l => exact tw_no isBl c l hb'
        rw [h0, List.drop_zero, Nat.add_zero]
        obtain ⟨f, rfl⟩ : ∃ g, f = g + 1 := ⟨f - 1, by omega⟩
        simp only [scanGo]
        rw [if_neg hne]
        by_cases hk : kindOf (l.take (endOf l)) = 0
        · rw [if_pos hk, if_pos ((tok_zero l hne).2 hk)]
        · rw [if_neg hk, if_neg (fun h => hk ((tok_zero l hne).1 h))]
          by_cases h2 : ts.length = 2048
          · rw [if_pos h2, if_pos h2]
          · rw [if_neg h2, if_neg h2]
            have ht : tokOf l = (endOf l, kindOf (l.take (endOf l))) := by rw [tok_eq l hne, if_neg hk]
            rw [ht]
            have he := endOf_le l hne
            rw [ih (l.drop (endOf l)) _ _ f f' (by rw [List.length_drop]; omega) (by rw [List.length_drop]; omega) (by rw [List.length_drop]; omega), List.drop_drop]
theorem scan_eq (l : List UInt8) : rscan l = scan l := by
  unfold rscan scan
  split
  · rfl
  · rw [go_eq l.length l 0 [] (l.length + 1) (l.length + 1) (Nat.le_refl _) (by omega) (by omega), Nat.zero_add]
end Go.Proofs.Ytmdaedeagiamkaa
