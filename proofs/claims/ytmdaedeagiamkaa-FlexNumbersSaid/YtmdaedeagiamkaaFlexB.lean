/- Words, numbers, signs and tokens of package flex: what each function answers. -/
import Derived.Test.YtmdaedeagiamkaaFlexA
import Derived.Test.YtmdaedeagiamkaaShelf
set_option linter.unusedVariables false
set_option linter.unusedSimpArgs false
namespace Go.Proofs.Ytmdaedeagiamkaa
open Go.RowKit

/-- The words of the language. -/
def wordsL : List (List UInt8) := [[105, 110, 116], [102, 108, 111, 97, 116], [100, 111, 117, 98, 108, 101], [105, 102], [101, 108, 115, 101], [119, 104, 105, 108, 101], [114, 101, 97, 100], [105, 110], [115, 113, 114, 116], [97, 98, 115]]
def wordsB : List ByteArray := wordsL.map fun l => ⟨l.toArray⟩
def isWord (l : List UInt8) : Bool := wordsL.contains l
theorem isWord_B (s : ByteArray) : Lib.containsS (wordsB.take 10) s = isWord s.data.toList := by
  rw [Bool.eq_iff_iff, Lib.containsS_iff]
  have : wordsB.take 10 = wordsB := rfl
  rw [this]
  unfold isWord wordsB
  rw [List.contains_iff_mem, List.mem_map]
  constructor
  · rintro ⟨l, hl, rfl⟩; exact hl
  · intro h; exact ⟨_, h, rfl⟩

theorem isWord_calls (s : ByteArray) (w : World) :
    Calls Try.prog 16 #[.string s] w fun e w' => e = .returned (.bool (isWord s.data.toList)) ∧ Below w.heap.size w w' := by
  go_enter Try.func16, Try.ntmps16
  go_wp2_with fail
  refine (Try.slices_Contains_string w.heap.size 0 10 10 wordsB s _ (by decide) (by decide) ?_).mono ?_
  · intro j hj
    have hj' : j < 10 := hj
    simp only [Nat.zero_add]
    rcases j with _ | _ | _ | _ | _ | _ | _ | _ | _ | _ | j <;> first | omega | simp [wordsB, wordsL]
  rintro e w1 ⟨rfl, rfl⟩
  rw [isWord_B]
  go_wp2_with fail
  go_ret
  exact ⟨rfl, (Below.refl _ _).alloc (Nat.le_refl _) _⟩

/-- The number that a text begins with: its length and its kind. -/
def numOf (l : List UInt8) : Nat × Int :=
  if Lib.hasPrefix (l.drop (tw isDi l)) [46] = true ∧ 0 < tw isDi (l.drop (tw isDi l + 1)) then (tw isDi l + 1 + tw isDi (l.drop (tw isDi l + 1)), 4) else (tw isDi l, 3)

theorem hasPrefix_size {l : List UInt8} {p : List UInt8} (h : Lib.hasPrefix l p = true) : p.length ≤ l.length := by
  have := List.isPrefixOf_iff_prefix.1 h
  exact this.length_le

theorem number_calls (s : ByteArray) (w : World) (hs : s.size ≤ maxLen) :
    Calls Try.prog 33 #[.string s] w fun e w' => e = .returned (.tuple #[.int .i64 (numOf s.data.toList).1, .int .i64 (numOf s.data.toList).2]) ∧ Below w.heap.size w w' := by
  have Hsz := Lib.hid hs
  unfold maxLen at hs
  go_enter Try.func33, Try.ntmps33
  go_wp2_with fail
  refine (whileDigit_calls _ _ Hsz.out).mono ?_
  rintro e w1 ⟨rfl, hb1⟩
  have hle := tw_le isDi s.data.toList
  have hx := Lib.extract_to_end s (tw isDi s.data.toList)
  have hx1 := Lib.extract_to_end s (tw isDi s.data.toList + 1)
  generalize hn : tw isDi s.data.toList = n at *
  have Hn := Lib.hid hn
  have Hx := Lib.hid hx
  have Hx1 := Lib.hid hx1
  clear hx hx1 hn
  have hle2 : n ≤ s.size := by simpa using hle
  clear hle
  go_wp2_with fail
  refine (Try.strings_HasPrefix _ _ _).mono ?_
  rintro e w2 ⟨rfl, rfl⟩
  rw [Hx.out]
  generalize hp : Lib.hasPrefix (s.data.toList.drop n) [46] = b at *
  cases b
  · have Hp := Lib.hid hp
    clear hp
    go_wp2_with fail
    go_ret2
    exact ⟨by simp [numOf, Hn.out, Hp.out], hb1⟩
  · have hlt : n < s.size := by
      have := hasPrefix_size hp
      simp at this
      omega
    have Hp := Lib.hid hp
    clear hp
    have h1 : (1 : Int) ≤ ((s.size - n : Nat) : Int) := by omega
    go_wp2_with fail
    have hd : ((s.extract n s.size).extract 1 (s.size - n)).data.toList = s.data.toList.drop (n + 1) := by
      rw [Lib.extract_data, Lib.extract_to_end, List.drop_drop, List.take_of_length_le]
      simp
      omega
    have hz : ((s.extract n s.size).extract 1 (s.size - n)).size ≤ maxLen := by
      unfold maxLen; simp; omega
    refine (whileDigit_calls _ _ hz).mono ?_
    rintro e w3 ⟨rfl, hb3⟩
    rw [hd]
    clear hd hz
    have hle3 := tw_le isDi (s.data.toList.drop (n + 1))
    have hle4 : tw isDi (s.data.toList.drop (n + 1)) ≤ s.size - (n + 1) := by simpa using hle3
    clear hle3
    have hb : Below w.heap.size w w3 := hb1.trans (hb3.mono hb1.size)
    have Hb := Lib.hid hb
    clear hb hb1 hb3
    generalize hk : tw isDi (s.data.toList.drop (n + 1)) = k at *
    have Hk := Lib.hid hk
    clear hk
    by_cases hk0 : 0 < k
    · have hk1 : decide ((0 : Int) < (k : Int)) = true := by simp; omega
      go_wp2_with fail
      go_ret2
      refine ⟨?_, Hb.out⟩
      simp only [numOf, Hn.out, Hp.out, Hk.out]
      rw [if_pos ⟨trivial, hk0⟩]
      simp
    · obtain rfl : k = 0 := by omega
      go_wp2_with fail
      go_ret2
      refine ⟨?_, Hb.out⟩
      simp only [numOf, Hn.out, Hp.out, Hk.out]
      simp

/-- The length of the sign that a text begins with. -/
def twosL : List (List UInt8) := [[61, 61], [33, 61], [60, 61], [62, 61], [38, 38], [124, 124]]
def twosB : List ByteArray := twosL.map fun l => ⟨l.toArray⟩
def onesL : List UInt8 := [43, 45, 42, 47, 40, 41, 91, 93, 123, 125, 59, 44, 61, 60, 62, 33]
def signOf (l : List UInt8) : Nat := if twosL.any (Lib.hasPrefix l) then 2 else if onesL.any (fun c => l.head? == some c) then 1 else 0

theorem indexByte_ge (l : List UInt8) (c : UInt8) : -1 ≤ Lib.indexByte l c := by
  induction l with
  | nil => simp [Lib.indexByte]
  | cons b l ih =>
    simp only [Lib.indexByte]
    split
    · omega
    · split <;> omega
theorem indexByte_mem (l : List UInt8) (c : UInt8) : 0 ≤ Lib.indexByte l c ↔ c ∈ l := by
  induction l with
  | nil => simp [Lib.indexByte]
  | cons b l ih =>
    have := indexByte_ge l c
    simp only [Lib.indexByte, List.mem_cons]
    by_cases h : b == c
    · rw [if_pos h]; simp at h; simp [h]
    · rw [if_neg h]
      simp at h
      by_cases h1 : (Lib.indexByte l c == -1) = true
      · rw [if_pos h1]
        simp at h1
        have : ¬ c ∈ l := fun hm => by have := ih.2 hm; omega
        simp [this, Ne.symm h]
      · rw [if_neg h1]
        simp at h1
        have : c ∈ l := ih.1 (by omega)
        simp [this]
        omega
theorem twos_at (k : Nat) (h : k < 6) : twosL.take (k + 1) = twosL.take k ++ [(twosB[k]?.getD ByteArray.empty).data.toList] := by
  rcases k with _ | _ | _ | _ | _ | _ | k <;> first | omega | rfl
theorem signOf_two {l : List UInt8} {k : Nat} (hk : k < 6) (h : Lib.hasPrefix l (twosB[k]?.getD ByteArray.empty).data.toList = true) : signOf l = 2 := by
  unfold signOf
  rw [if_pos]
  rw [← List.take_append_drop (k + 1) twosL, List.any_append, twos_at k hk, List.any_append]
  simp [h]
theorem size_one (s : ByteArray) (h1 : 1 ≤ s.size) : ∃ c l, s.data.toList = c :: l ∧ s.extract 0 1 = ⟨#[c]⟩ := by
  obtain ⟨⟨l⟩⟩ := s
  cases l with
  | nil => simp [ByteArray.size] at h1
  | cons c l => exact ⟨c, l, rfl, by apply ByteArray.ext; simp [ByteArray.data_extract]⟩

theorem sign_calls (s : ByteArray) (w : World) (hs : s.size ≤ maxLen) (h1 : 1 ≤ s.size) :
    Calls Try.prog 34 #[.string s] w fun e w' => e = .returned (.int .i64 (signOf s.data.toList)) ∧ Below w.heap.size w w' := by
  unfold maxLen at hs
  go_enter Try.func34, Try.ntmps34
  go_wp2_with fail
  have hcells : ∀ j, j < 6 → (w.alloc (.cells #[.string ⟨#[61, 61]⟩, .string ⟨#[33, 61]⟩, .string ⟨#[60, 61]⟩, .string ⟨#[62, 61]⟩, .string ⟨#[38, 38]⟩, .string ⟨#[124, 124]⟩] 9)).cell? ⟨w.heap.size, j, none⟩ = some (.string (twosB.getD j ByteArray.empty)) := by
    intro j hj
    rcases j with _ | _ | _ | _ | _ | _ | j <;> first | omega | simp [twosB, twosL]
  have hb : Below w.heap.size w (w.alloc (.cells #[.string ⟨#[61, 61]⟩, .string ⟨#[33, 61]⟩, .string ⟨#[60, 61]⟩, .string ⟨#[62, 61]⟩, .string ⟨#[38, 38]⟩, .string ⟨#[124, 124]⟩] 9)) := (Below.refl _ _).alloc (Nat.le_refl _) _
  generalize w.alloc _ = W at *
  generalize w.heap.size = B at hcells ⊢
  have Hc := Lib.hid hcells
  have Hb := Lib.hid hb
  clear hcells hb
  go_loop [7] (fun i => ∃ k : Nat, k ≤ 6 ∧ i = .int .i64 k ∧ (twosL.take k).any (Lib.hasPrefix s.data.toList) = false) (fun i => 6 - (intOf i).toNat)
  case atStart => exact ⟨0, by omega, rfl, rfl⟩
  case round =>
    obtain ⟨k, hk, rfl, hno⟩ := hrel
    have Hno := Lib.hid hno
    clear hno
    by_cases hlt : k < 6
    · have hcell := Hc.out k hlt
      go_wp2_with fail
      refine (Try.strings_HasPrefix _ _ _).mono ?_
      rintro e w2 ⟨rfl, rfl⟩
      generalize hp : Lib.hasPrefix s.data.toList (twosB[k]?.getD ByteArray.empty).data.toList = b at *
      cases b
      · have hn : (twosL.take (k + 1)).any (Lib.hasPrefix s.data.toList) = false := by
          rw [twos_at k hlt, List.any_append, Hno.out]; simp [hp]
        have Hn := Lib.hid hn
        clear hn hp
        go_wp2_with fail
        go_round
        case rel => exact ⟨k + 1, by omega, by go_num, Hn.out⟩
        case measure => simp [intOf]; omega
      · have h2 := signOf_two hlt hp
        have H2 := Lib.hid h2
        clear h2 hp
        go_wp2_with fail
        go_ret
        exact ⟨ret_int (by rw [H2.out]; rfl), Hb.out⟩
    · obtain rfl : k = 6 := by omega
      obtain ⟨c, l, hl, hx⟩ := size_one s h1
      have Hx := Lib.hid hx
      have Hl := Lib.hid hl
      clear hx hl
      have hs1 : signOf s.data.toList = if c ∈ onesL then 1 else 0 := by
        unfold signOf
        have : twosL.any (Lib.hasPrefix s.data.toList) = false := Hno.out
        rw [this, Hl.out]
        simp
      have Hs1 := Lib.hid hs1
      clear hs1
      go_wp2_with fail
      rw [Hx.out]
      refine (Try.strings_Contains_one _ _ _).mono ?_
      rintro e w2 ⟨rfl, rfl⟩
      by_cases hm : c ∈ onesL
      · have hd : decide (0 ≤ Lib.indexByte (⟨#[43, 45, 42, 47, 40, 41, 91, 93, 123, 125, 59, 44, 61, 60, 62, 33]⟩ : ByteArray).data.toList c) = true := by
          rw [decide_eq_true_eq, indexByte_mem]; exact hm
        rw [hd]
        clear hd
        go_wp2_with fail
        go_ret
        exact ⟨ret_int (by rw [Hs1.out, if_pos hm]; rfl), Hb.out⟩
      · have hd : decide (0 ≤ Lib.indexByte (⟨#[43, 45, 42, 47, 40, 41, 91, 93, 123, 125, 59, 44, 61, 60, 62, 33]⟩ : ByteArray).data.toList c) = false := by
          rw [decide_eq_false_iff_not, indexByte_mem]; exact hm
        rw [hd]
        clear hd
        go_wp2_with fail
        go_ret
        exact ⟨ret_int (by rw [Hs1.out, if_neg hm]; rfl), Hb.out⟩

/-- A text's first byte (0: there is none). -/
def hd0 : List UInt8 → Int
  | [] => 0
  | c :: _ => (c.toNat : Int)

/-- The token that a text begins with: its length and its kind; 0: there is none. -/
def tokOf (l : List UInt8) : Nat × Int :=
  if isLe (hd0 l) = true then
    (if isWord (l.take (tw inNm l)) = true then (tw inNm l, 2) else if 16 < tw inNm l then (0, 0) else (tw inNm l, 1))
  else if isDi (hd0 l) = true then numOf l
  else if 0 < signOf l then (signOf l, 5) else (0, 0)

theorem head_wrap (s : ByteArray) (h1 : 0 < s.size) : wrap32 ((s[0]'h1).toNat : Int) = hd0 s.data.toList := by
  obtain ⟨⟨l⟩⟩ := s
  cases l with
  | nil => simp [ByteArray.size] at h1
  | cons c l =>
    have := c.toNat_lt
    show wrap32 (c.toNat : Int) = (c.toNat : Int)
    unfold wrap32
    omega
theorem clsOf_two {r : Int} (h : isLe r = true) : clsOf r = 2 := by
  have := clsOf_letter r; rw [h] at this; simpa using this
theorem clsOf_three {r : Int} (h : isDi r = true) : clsOf r = 3 := by
  have := clsOf_digit r; rw [h] at this; simpa using this
theorem clsOf_ne_two {r : Int} (h : ¬ isLe r = true) : (clsOf r == 2) = false := by
  rw [clsOf_letter r]; simpa using h
theorem clsOf_ne_three {r : Int} (h : ¬ isDi r = true) : (clsOf r == 3) = false := by
  rw [clsOf_digit r]; simpa using h
theorem extract_take (s : ByteArray) (n : Nat) : (s.extract 0 n).data.toList = s.data.toList.take n := by
  rw [Lib.extract_data]; simp

theorem token_calls (s : ByteArray) (w : World) (hs : s.size ≤ maxLen) (h1 : 1 ≤ s.size) :
    Calls Try.prog 23 #[.string s] w fun e w' => e = .returned (.tuple #[.int .i64 (tokOf s.data.toList).1, .int .i64 (tokOf s.data.toList).2]) ∧ Below w.heap.size w w' := by
  have Hsz := Lib.hid hs
  unfold maxLen at hs
  go_enter Try.func23, Try.ntmps23
  go_wp2_with fail
  refine wp_scope_jumps 0 (fun a W => (∃ x0 x1 x2 x3 x4 x5 x6 x7 x8 x9 x10 x11 x12 x13 x14 x15 x16 x17 x18 x19 x20 x21 x22 x23 x24 x25 x26 x27 x28 x29 x30 x31 x32 : Value, a = { tmps := #[x0, x1, x2, x3, x4, x5, x6, x7, x8, x9, x10, x11, x12, x13, x14, x15, x16, x17, x18, x19, x20, x21, x22, x23, x24, x25, x26, x27, x28, x29, x30, x31, x32], defers := [] }) ∧ tokOf s.data.toList = (0, 0) ∧ Below w.heap.size w W) (fun _ _ => 0) rfl ?_ ?_
  rotate_left
  · rintro a W ⟨⟨x0, x1, x2, x3, x4, x5, x6, x7, x8, x9, x10, x11, x12, x13, x14, x15, x16, x17, x18, x19, x20, x21, x22, x23, x24, x25, x26, x27, x28, x29, x30, x31, x32, rfl⟩, ht, hb⟩
    have Ht := Lib.hid ht
    have Hb := Lib.hid hb
    clear ht hb
    go_wp2_with fail
    unfold Exit.jump
    go_ret2
    exact ⟨by rw [Ht.out]; rfl, Hb.out⟩
  go_wp2_with fail
  rw [head_wrap s h1]
  refine (classOf_calls _ _).mono ?_
  rintro e w ⟨rfl, rfl⟩
  generalize hr : hd0 s.data.toList = r at *
  have Hr := Lib.hid hr
  clear hr
  by_cases hL : isLe r = true
  · rw [clsOf_two hL]
    have HL := Lib.hid hL
    clear hL
    go_wp2_with fail
    refine (whileName_calls _ _ Hsz.out).mono ?_
    rintro e w2 ⟨rfl, hb2⟩
    have hle := tw_le inNm s.data.toList
    generalize hn : tw inNm s.data.toList = n at *
    have Hn := Lib.hid hn
    clear hn
    have hle2 : n ≤ s.size := by simpa using hle
    clear hle
    go_wp2_with fail
    refine (isWord_calls _ _).mono ?_
    rintro e w3 ⟨rfl, hb3⟩
    have hb : Below w.heap.size w w3 := hb2.trans (hb3.mono hb2.size)
    have Hb := Lib.hid hb
    clear hb hb2 hb3
    rw [extract_take]
    generalize hw : isWord (s.data.toList.take n) = b at *
    have Hw := Lib.hid hw
    clear hw
    cases b
    · by_cases h16 : 16 < n
      · have hd : decide ((16 : Int) < (n : Int)) = true := by simp; omega
        go_wp2_with fail
        go_step3
        exact ⟨rfl, ⟨_, _, _, _, _, _, _, _, _, _, _, _, _, _, _, _, _, _, _, _, _, _, _, _, _, _, _, _, _, _, _, _, _, rfl⟩, by simp [tokOf, Hr.out, HL.out, Hn.out, Hw.out, h16], Hb.out⟩
      · have hd : decide ((16 : Int) < (n : Int)) = false := by simp; omega
        go_wp2_with fail
        unfold Exit.jump
        go_ret2
        exact ⟨by simp [tokOf, Hr.out, HL.out, Hn.out, Hw.out, h16], Hb.out⟩
    · go_wp2_with fail
      unfold Exit.jump
      go_ret2
      exact ⟨by simp [tokOf, Hr.out, HL.out, Hn.out, Hw.out], Hb.out⟩
  · by_cases hD : isDi r = true
    · rw [clsOf_three hD]
      have HL := Lib.hid hL
      have HD := Lib.hid hD
      clear hL hD
      go_wp2_with fail
      refine (number_calls _ _ Hsz.out).mono ?_
      rintro e w2 ⟨rfl, hb2⟩
      have Hb := Lib.hid hb2
      clear hb2
      generalize hn : numOf s.data.toList = q at *
      have Hn := Lib.hid hn
      clear hn
      go_wp2_with fail
      unfold Exit.jump
      go_ret2
      exact ⟨by simp [tokOf, Hr.out, HL.out, HD.out, Hn.out], Hb.out⟩
    · have c2 := clsOf_ne_two hL
      have c3 := clsOf_ne_three hD
      have HL := Lib.hid hL
      have HD := Lib.hid hD
      clear hL hD
      generalize clsOf r = c at *
      go_wp2_with fail
      refine (sign_calls _ _ Hsz.out h1).mono ?_
      rintro e w2 ⟨rfl, hb2⟩
      have Hb := Lib.hid hb2
      clear hb2 c2 c3
      generalize hn : signOf s.data.toList = q at *
      have Hn := Lib.hid hn
      clear hn
      by_cases hq : 0 < q
      · have hd : decide ((0 : Int) < (q : Int)) = true := by simp; omega
        go_wp2_with fail
        unfold Exit.jump
        go_ret2
        exact ⟨by simp [tokOf, Hr.out, HL.out, HD.out, Hn.out, hq], Hb.out⟩
      · obtain rfl : q = 0 := by omega
        go_wp2_with fail
        go_step3
        go_wp2_with fail
        unfold Exit.jump
        go_ret2
        exact ⟨by simp [tokOf, Hr.out, HL.out, HD.out, Hn.out], Hb.out⟩
end Go.Proofs.Ytmdaedeagiamkaa
