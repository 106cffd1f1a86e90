/- The document's scanner (plumblineref04): where a token ends, and all tokens. -/
import Derived.Test.YtmdaedeagiamkaaRefB
set_option linter.unusedVariables false
set_option linter.unusedSimpArgs false
namespace Go.Proofs.Ytmdaedeagiamkaa
open Go.RowKit

theorem drop_byte (s : ByteArray) (k : Nat) (h : k < s.size) : s.data.toList.drop k = s[k] :: s.data.toList.drop (k + 1) := drop_at s k h
theorem hd0_drop (s : ByteArray) (k : Nat) (h : k < s.size) : hd0 (s.data.toList.drop k) = ((s[k]'h).toNat : Int) := by
  rw [drop_byte s k h]; rfl
/-- So many bytes from a place on are so. -/
def TwF (p : Int → Bool) (l : List UInt8) (a k : Nat) : Prop := a + k ≤ l.length ∧ tw p (l.drop a) = k + tw p (l.drop (a + k))
theorem TwF.zero {p : Int → Bool} {l : List UInt8} {a : Nat} (h : a ≤ l.length) : TwF p l a 0 := ⟨h, by simp⟩
theorem TwF.yes {p : Int → Bool} {s : ByteArray} {a k : Nat} (h : TwF p s.data.toList a k) (hlt : a + k < s.size) (hy : p ((s[a + k]'hlt).toNat : Int) = true) : TwF p s.data.toList a (k + 1) := by
  refine ⟨by simp; omega, ?_⟩
  rw [h.2, drop_byte s _ hlt, tw_yes p _ _ hy, Nat.add_assoc a k 1]
  omega
theorem TwF.no {p : Int → Bool} {s : ByteArray} {a k : Nat} (h : TwF p s.data.toList a k) (hlt : a + k < s.size) (hn : p ((s[a + k]'hlt).toNat : Int) = false) : tw p (s.data.toList.drop a) = k := by
  rw [h.2, drop_byte s _ hlt, tw_no p _ _ hn]; rfl
theorem TwF.done {p : Int → Bool} {s : ByteArray} {a k : Nat} (h : TwF p s.data.toList a k) (hge : ¬ a + k < s.size) : tw p (s.data.toList.drop a) = k := by
  rw [h.2, List.drop_of_length_le (by simp; omega)]; rfl

/-- How many bytes the token has that a text begins with, as the document says. -/
def endOf (l : List UInt8) : Nat :=
  if isLe (hd0 l) = true then tw inNm l
  else if isDi (hd0 l) = true then
    (if hd0 (l.drop (tw isDi l)) = 46 ∧ isDi (hd0 (l.drop (tw isDi l + 1))) = true then tw isDi l + 1 + tw isDi (l.drop (tw isDi l + 1)) else tw isDi l)
  else if 2 ≤ l.length ∧ isSign (l.take 2) = true then 2 else 1

theorem rend_calls (s : ByteArray) (q : Nat) (w : World) (hs : s.size ≤ 8192) (hq : q < s.size) :
    Calls Try.prog 25 #[.string s, .int .i64 q] w fun e w' => e = .returned (.int .i64 ((q + endOf (s.data.toList.drop q) : Nat) : Int)) ∧ Below w.heap.size w w' := by
  have Hl := Lib.hid (size_list s)
  have Hh := Lib.hid (hd0_drop s q hq)
  go_enter Try.func25, Try.ntmps25
  go_wp2_with fail
  refine (rletter_calls _ _).mono ?_
  rintro e w ⟨rfl, rfl⟩
  generalize hL : isLe ((s[q]'hq).toNat : Int) = b at *
  have HL := Lib.hid hL
  clear hL
  cases b
  · go_wp2_with fail
    refine (rdigit_calls _ _).mono ?_
    rintro e w ⟨rfl, rfl⟩
    generalize hD : isDi ((s[q]'hq).toNat : Int) = b at *
    have HD := Lib.hid hD
    clear hD
    cases b
    · by_cases h2 : q + 2 ≤ s.size
      · have h2' : (q : Int) + 2 ≤ (s.size : Int) := by omega
        have hd : decide ((q : Int) + 2 ≤ (s.size : Int)) = true := by simp; omega
        have hx : (s.extract q (q + 2)).data.toList = (s.data.toList.drop q).take 2 := by rw [Lib.extract_data]; simp
        have Hx := Lib.hid hx
        clear hx
        have hq2 : (q : Int) ≤ (q : Int) + 2 := by omega
        go_wp2_with fail
        refine (risSign_calls _ _).mono ?_
        rintro e w1 ⟨rfl, hb1⟩
        rw [Hx.out]
        have Hb1 := Lib.hid hb1
        clear hb1
        generalize hS : isSign ((s.data.toList.drop q).take 2) = b at *
        have HS := Lib.hid hS
        clear hS
        have h2l : Hid (2 ≤ (s.data.toList.drop q).length) := by show 2 ≤ _; simp; omega
        cases b
        · go_wp2_with fail
          go_ret
          refine ⟨ret_int ?_, Hb1.out⟩
          simp only [endOf, Hh.out, HL.out, HD.out, HS.out]
          simp
        · go_wp2_with fail
          go_ret
          refine ⟨ret_int ?_, Hb1.out⟩
          simp only [endOf, Hh.out, HL.out, HD.out, HS.out]
          rw [if_neg (by simp), if_neg (by simp), if_pos ⟨h2l.out, trivial⟩]
          simp
      · have hd : decide ((q : Int) + 2 ≤ (s.size : Int)) = false := by simp; omega
        have hlt1 : (s.size : Int) < (q : Int) + 2 := by omega
        have h2l : Hid (¬ 2 ≤ (s.data.toList.drop q).length) := by show ¬ 2 ≤ _; simp; omega
        go_wp2_with fail
        go_ret
        refine ⟨ret_int ?_, Below.refl _ _⟩
        simp only [endOf, Hh.out, HL.out, HD.out]
        rw [if_neg (by simp), if_neg (by simp), if_neg (fun h => h2l.out h.1)]
        simp
    · have hf : endOf (s.data.toList.drop q) = (if hd0 ((s.data.toList.drop q).drop (tw isDi (s.data.toList.drop q))) = 46 ∧ isDi (hd0 ((s.data.toList.drop q).drop (tw isDi (s.data.toList.drop q) + 1))) = true then tw isDi (s.data.toList.drop q) + 1 + tw isDi ((s.data.toList.drop q).drop (tw isDi (s.data.toList.drop q) + 1)) else tw isDi (s.data.toList.drop q)) := by
        simp only [endOf, Hh.out, HL.out, HD.out]; simp
      have Hf := Lib.hid hf
      clear hf
      go_wp2_with fail
      go_loop [5] (fun i => ∃ k : Nat, q + k ≤ s.size ∧ i = .int .i64 ((q : Int) + (k : Int)) ∧ TwF isDi s.data.toList q k) (fun i => s.size - (intOf i).toNat)
      case atStart => exact ⟨0, by omega, by go_num, TwF.zero (by simp; omega)⟩
      case round =>
        obtain ⟨k, hk, rfl, ht⟩ := hrel
        have Ht := Lib.hid ht
        clear ht
        by_cases hlt : q + k < s.size
        · have hlt1 : (q : Int) + (k : Int) < (s.size : Int) := by omega
          have hd : decide ((q : Int) + (k : Int) < (s.size : Int)) = true := by simpa using hlt1
          go_wp2_with fail
          refine (rdigit_calls _ _).mono ?_
          rintro e w ⟨rfl, rfl⟩
          generalize hb2 : isDi ((s[q + k]'hlt).toNat : Int) = b2 at *
          cases b2
          · have ht := Ht.out.no hlt hb2
            clear hb2
            have Htw := Lib.hid ht
            clear ht
            by_cases h1 : q + k + 1 < s.size
            · have hlt2 : (q : Int) + (k : Int) + 1 < (s.size : Int) := by omega
              have hd2 : decide ((q : Int) + (k : Int) + 1 < (s.size : Int)) = true := by simpa using hlt2
              have hh1 : hd0 ((s.data.toList.drop q).drop k) = ((s[q + k]'hlt).toNat : Int) := by rw [List.drop_drop]; exact hd0_drop s _ hlt
              have hh2 : hd0 ((s.data.toList.drop q).drop (k + 1)) = ((s[q + k + 1]'h1).toNat : Int) := by rw [List.drop_drop]; exact hd0_drop s _ h1
              have Hh1 := Lib.hid hh1
              have Hh2 := Lib.hid hh2
              clear hh1 hh2
              by_cases h46 : ((s[q + k]'hlt).toNat : Int) = 46
              · have hc1 : (((s[q + k]'hlt).toNat : Int) == 46) = true := by simp [h46]
                have H46 := Lib.hid h46
                clear h46
                go_wp2_with fail
                refine (rdigit_calls _ _).mono ?_
                rintro e w ⟨rfl, rfl⟩
                generalize hb3 : isDi ((s[q + k + 1]'h1).toNat : Int) = b3 at *
                have Hb3 := Lib.hid hb3
                clear hb3
                cases b3
                · go_wp2_with fail
                  go_ret
                  refine ⟨ret_int ?_, Below.refl _ _⟩
                  rw [Hf.out, Htw.out, Hh1.out, Hh2.out, Hb3.out, if_neg (by simp)]
                  simp
                · have hf2 : endOf (s.data.toList.drop q) = k + 1 + tw isDi (s.data.toList.drop (q + (k + 1))) := by
                    rw [Hf.out, Htw.out, Hh1.out, Hh2.out, Hb3.out, if_pos ⟨H46.out, rfl⟩, List.drop_drop]
                  have Hf2 := Lib.hid hf2
                  clear hf2
                  go_wp2_with fail
                  clear Hh1 Hh2 Hb3 H46 hc1 hd2 Htw Ht
                  obtain ⟨w0, rfl⟩ : ∃ w0 : World, w0 = w := ⟨_, rfl⟩
                  go_loop [5] (fun i => ∃ k' : Nat, q + (k + 1) + k' ≤ s.size ∧ i = .int .i64 ((q : Int) + ((k + 1 : Nat) : Int) + (k' : Int)) ∧ TwF isDi s.data.toList (q + (k + 1)) k') (fun i => s.size - (intOf i).toNat)
                  case atStart => exact ⟨0, by omega, by go_num, TwF.zero (by simp; omega)⟩
                  case round =>
                    obtain ⟨k', hk', rfl, ht⟩ := hrel
                    have Ht := Lib.hid ht
                    clear ht
                    by_cases hlt' : q + (k + 1) + k' < s.size
                    · have hlt1' : (q : Int) + ((k + 1 : Nat) : Int) + (k' : Int) < (s.size : Int) := by omega
                      have hd : decide ((q : Int) + ((k + 1 : Nat) : Int) + (k' : Int) < (s.size : Int)) = true := by simpa using hlt1'
                      go_wp2_with fail
                      refine (rdigit_calls _ _).mono ?_
                      rintro e w ⟨rfl, rfl⟩
                      generalize hb2 : isDi ((s[q + (k + 1) + k']'hlt').toNat : Int) = b2 at *
                      cases b2
                      · have ht := Ht.out.no hlt' hb2
                        clear hb2
                        have Htw := Lib.hid ht
                        clear ht
                        go_wp2_with fail
                        go_ret
                        refine ⟨ret_int ?_, Below.refl _ _⟩
                        rw [Hf2.out, Htw.out]
                        omega
                      · have ht := Ht.out.yes hlt' hb2
                        clear hb2 Ht
                        have Ht := Lib.hid ht
                        clear ht
                        go_wp2_with fail
                        go_round
                        case rel => exact ⟨k' + 1, by omega, by go_num, Ht.out⟩
                        case measure => simp [intOf]; omega
                    · have hlt1' : (s.size : Int) ≤ (q : Int) + ((k + 1 : Nat) : Int) + (k' : Int) := by omega
                      have hd : decide ((q : Int) + ((k + 1 : Nat) : Int) + (k' : Int) < (s.size : Int)) = false := by simp; omega
                      have Htw := Lib.hid (Ht.out.done hlt')
                      go_wp2_with fail
                      go_ret
                      refine ⟨ret_int ?_, Below.refl _ _⟩
                      rw [Hf2.out, Htw.out]
                      omega
              · have hc1 : (((s[q + k]'hlt).toNat : Int) == 46) = false := by simp [h46]
                have H46 := Lib.hid h46
                clear h46
                go_wp2_with fail
                go_ret
                refine ⟨ret_int ?_, Below.refl _ _⟩
                rw [Hf.out, Htw.out, Hh1.out, if_neg (fun h => H46.out h.1)]
                simp
            · have hlt2 : (s.size : Int) ≤ (q : Int) + (k : Int) + 1 := by omega
              have hd2 : decide ((q : Int) + (k : Int) + 1 < (s.size : Int)) = false := by simp; omega
              have hn : ((s.data.toList.drop q).drop (k + 1)) = [] := by rw [List.drop_drop, List.drop_of_length_le (by simp; omega)]
              have Hn := Lib.hid hn
              clear hn
              go_wp2_with fail
              go_ret
              refine ⟨ret_int ?_, Below.refl _ _⟩
              rw [Hf.out, Htw.out, Hn.out, if_neg (fun h => absurd h.2 (by decide))]
              simp
          · have ht := Ht.out.yes hlt hb2
            clear hb2 Ht
            have Ht := Lib.hid ht
            clear ht
            go_wp2_with fail
            go_round
            case rel => exact ⟨k + 1, by omega, by go_num, Ht.out⟩
            case measure => simp [intOf]; omega
        · have hlt1 : ¬ (q : Int) + (k : Int) < (s.size : Int) := by omega
          have hd : decide ((q : Int) + (k : Int) < (s.size : Int)) = false := by simpa using hlt1
          have Htw := Lib.hid (Ht.out.done hlt)
          have hlt2 : (s.size : Int) ≤ (q : Int) + (k : Int) + 1 := by omega
          have hd2 : decide ((q : Int) + (k : Int) + 1 < (s.size : Int)) = false := by simp; omega
          have hn : ((s.data.toList.drop q).drop (k + 1)) = [] := by rw [List.drop_drop, List.drop_of_length_le (by simp; omega)]
          have Hn := Lib.hid hn
          clear hn
          go_wp2_with fail
          go_ret
          refine ⟨ret_int ?_, Below.refl _ _⟩
          rw [Hf.out, Htw.out, Hn.out, if_neg (fun h => absurd h.2 (by decide))]
  · have hf : endOf (s.data.toList.drop q) = tw inNm (s.data.toList.drop q) := by
      simp only [endOf, Hh.out, HL.out]; simp
    have Hf := Lib.hid hf
    clear hf
    go_wp2_with fail
    go_loop [5] (fun i => ∃ k : Nat, q + k ≤ s.size ∧ i = .int .i64 ((q : Int) + (k : Int)) ∧ TwF inNm s.data.toList q k) (fun i => s.size - (intOf i).toNat)
    case atStart => exact ⟨0, by omega, by go_num, TwF.zero (by simp; omega)⟩
    case round =>
      obtain ⟨k, hk, rfl, ht⟩ := hrel
      have Ht := Lib.hid ht
      clear ht
      by_cases hlt : q + k < s.size
      · have hlt1 : (q : Int) + (k : Int) < (s.size : Int) := by omega
        have hd : decide ((q : Int) + (k : Int) < (s.size : Int)) = true := by simpa using hlt1
        have hyes := fun h => Ht.out.yes hlt h
        have hno := fun h => Ht.out.no hlt h
        have Hy := Lib.hid hyes
        have Hn := Lib.hid hno
        clear hyes hno
        go_wp2_with fail
        refine (rletter_calls _ _).mono ?_
        rintro e w ⟨rfl, rfl⟩
        generalize hb1 : isLe ((s[q + k]'hlt).toNat : Int) = b1 at *
        have Hb1' := Lib.hid hb1
        clear hb1
        cases b1
        · go_wp2_with fail
          refine (rdigit_calls _ _).mono ?_
          rintro e w ⟨rfl, rfl⟩
          generalize hb2 : isDi ((s[q + k]'hlt).toNat : Int) = b2 at *
          have Hb2' := Lib.hid hb2
          clear hb2
          cases b2
          · by_cases h95 : ((s[q + k]'hlt).toNat : Int) = 95
            · have hc1 : (((s[q + k]'hlt).toNat : Int) == 95) = true := by simp [h95]
              have h := Hy.out (by rw [inNm, Hb1'.out, Hb2'.out, h95]; rfl)
              have H := Lib.hid h
              clear h h95
              go_wp2_with fail
              go_round
              case rel => exact ⟨k + 1, by omega, by go_num, H.out⟩
              case measure => simp [intOf]; omega
            · have hc1 : (((s[q + k]'hlt).toNat : Int) == 95) = false := by simp [h95]
              have h := Hn.out (by rw [inNm, Hb1'.out, Hb2'.out]; simp [h95])
              have H := Lib.hid h
              clear h h95
              go_wp2_with fail
              go_ret
              exact ⟨ret_int (by rw [Hf.out, H.out]; simp), Below.refl _ _⟩
          · have h := Hy.out (by rw [inNm, Hb1'.out, Hb2'.out]; rfl)
            have H := Lib.hid h
            clear h
            go_wp2_with fail
            go_round
            case rel => exact ⟨k + 1, by omega, by go_num, H.out⟩
            case measure => simp [intOf]; omega
        · have h := Hy.out (by rw [inNm, Hb1'.out]; rfl)
          have H := Lib.hid h
          clear h
          go_wp2_with fail
          go_round
          case rel => exact ⟨k + 1, by omega, by go_num, H.out⟩
          case measure => simp [intOf]; omega
      · have hlt1 : ¬ (q : Int) + (k : Int) < (s.size : Int) := by omega
        have hd : decide ((q : Int) + (k : Int) < (s.size : Int)) = false := by simpa using hlt1
        have Htw := Lib.hid (Ht.out.done hlt)
        go_wp2_with fail
        go_ret
        exact ⟨ret_int (by rw [Hf.out, Htw.out]), Below.refl _ _⟩

/-- The document's scanner, from a place on. -/
def rscanGo : Nat → List UInt8 → Nat → List Tok → List Tok × Int × Nat
  | 0, _, _, ts => (ts, 0, 0)
  | f + 1, l, p, ts =>
    if l = [] then (ts, 0, 0)
    else if isBl (hd0 l) = true then rscanGo f (l.drop 1) (p + 1) ts
    else if kindOf (l.take (endOf l)) = 0 then ([], 3, p)
    else if ts.length = 2048 then ([], 5, p)
    else rscanGo f (l.drop (endOf l)) (p + endOf l) (ts ++ [⟨kindOf (l.take (endOf l)), l.take (endOf l), p⟩])
def rscan (l : List UInt8) : List Tok × Int × Nat :=
  if 8192 < l.length then ([], 5, 0) else rscanGo (l.length + 1) l 0 []

theorem endOf_le (l : List UInt8) (h : l ≠ []) : endOf l ≤ l.length ∧ 1 ≤ endOf l := by
  have h1 := tw_le inNm l
  have h2 := tw_le isDi l
  have h3 := tw_le isDi (l.drop (tw isDi l + 1))
  cases l with
  | nil => exact absurd rfl h
  | cons c l =>
    unfold endOf
    split
    · rename_i hL
      refine ⟨h1, ?_⟩
      rw [tw_yes _ _ _ (by unfold inNm; simp only [hd0] at hL; simp [hL])]
      omega
    · split
      · rename_i hD
        have h0 : 1 ≤ tw isDi (c :: l) := by rw [tw_yes _ _ _ (by simpa [hd0] using hD)]; omega
        split
        · rename_i hx
          refine ⟨?_, by omega⟩
          have hlt : tw isDi (c :: l) + 1 < (c :: l).length := by
            by_cases hc : tw isDi (c :: l) + 1 < (c :: l).length
            · exact hc
            · have := hx.2
              rw [List.drop_of_length_le (by omega)] at this
              exact absurd this (by decide)
          rw [List.length_drop] at h3
          omega
        · exact ⟨h2, h0⟩
      · split
        · rename_i hx; exact ⟨hx.1, by omega⟩
        · simp

theorem rscan_calls (s : ByteArray) (w : World) (hs : s.size ≤ maxLen) :
    Calls Try.prog 11 #[.string s] w fun e w' => ∃ v, e = .returned (.tuple #[v, .int .i64 (rscan s.data.toList).2.1, .int .i64 (rscan s.data.toList).2.2]) ∧
      RdAt w' v (rscan s.data.toList).1.length 3 (tokCells (rscan s.data.toList).1) ∧ Below w.heap.size w w' := by
  unfold maxLen at hs
  by_cases hbig : 8192 < s.size
  · have hd : decide ((8192 : Int) < (s.size : Int)) = true := by simp; omega
    have hr : rscan s.data.toList = ([], 5, 0) := by unfold rscan; rw [if_pos (by simpa using hbig)]
    have Hr := Lib.hid hr
    clear hr
    go_enter Try.func11, Try.ntmps11
    go_wp2_with fail
    go_ret3
    rw [Hr.out]
    exact ⟨_, rfl, RdAt.nil _ _ _ _, Below.refl _ _⟩
  · have hr : rscan s.data.toList = rscanGo (s.size + 1) s.data.toList 0 [] := by
      unfold rscan; rw [if_neg (by simpa using hbig)]; simp
    have hd : decide ((8192 : Int) < (s.size : Int)) = false := by simp; omega
    have hsz : s.size ≤ 8192 := by omega
    generalize hR : rscan s.data.toList = R at *
    have Hr := Lib.hid hr
    clear hr hR
    obtain ⟨i0, hi, hz0, hz1, hz2⟩ := info_parts lexInfo
    go_enter Try.func11, Try.ntmps11
    go_wp2_with fail
    go_loopw [5, 6] (fun v p W => ∃ (ts : List Tok) (q f : Nat), p = .int .i64 q ∧ q ≤ s.size ∧ ts.length ≤ 2048 ∧ W.ownsRow w.heap.size 32 3 v ts.length (tokCells ts) ∧ Below w.heap.size w W ∧
      s.size - q < f ∧ rscanGo f (s.data.toList.drop q) q ts = R) (fun _ p _ => s.size - (intOf p).toNat)
    case atStart => exact ⟨[], 0, s.size + 1, rfl, by omega, by simp, World.ownsRow_nil _ _ _ _, Below.refl _ _, by omega, Hr.out.symm⟩
    case round =>
      obtain ⟨ts, q, f, rfl, hq, hts, hown, hbw, hf, hgo⟩ := hrel
      obtain ⟨A, c, rfl⟩ := own_shape hown
      have Hown := Lib.hid hown
      have Hbw := Lib.hid hbw
      have Hgo := Lib.hid hgo
      clear hown hbw hgo hd Hr
      by_cases hlt : q < s.size
      · obtain ⟨f, rfl⟩ : ∃ g, f = g + 1 := ⟨f - 1, by omega⟩
        have hne : ¬ s.data.toList.drop q = [] := by
          intro h
          have := congrArg List.length h
          simp at this
          omega
        have hgo := Hgo.out
        simp only [rscanGo, hd0_drop s q hlt] at hgo
        rw [if_neg hne] at hgo
        clear Hgo
        have hel := endOf_le _ hne
        have Hel := Lib.hid hel
        clear hel hne
        go_wp2_with fail
        refine (rblank_calls _ _).mono ?_
        rintro e wr ⟨rfl, rfl⟩
        generalize hb : isBl ((s[q]'hlt).toNat : Int) = b at *
        clear hb
        cases b
        · rw [if_neg (by simp)] at hgo
          have Hgo := Lib.hid hgo
          clear hgo
          go_wp2_with fail
          refine (rend_calls s q _ hsz hlt).mono ?_
          rintro e w1 ⟨rfl, hb1⟩
          have hn := Hel.out
          generalize hn' : endOf (s.data.toList.drop q) = n at *
          have hnl : n ≤ s.size - q := by simpa using hn.1
          have hn1 : 1 ≤ n := hn.2
          have Hn' := Lib.hid hn'
          have hown1 := own_kept Hown.out hb1
          have hbw1 := below2 Hbw.out hb1
          have hx : (s.extract q (q + n)).data.toList = (s.data.toList.drop q).take n := by rw [Lib.extract_data]; simp
          have Hx := Lib.hid hx
          have Hown1 := Lib.hid hown1
          have Hbw1 := Lib.hid hbw1
          clear hn hn' hb1 hown1 hbw1 hx Hel
          have hqn : (q : Int) + (n : Int) ≤ (s.size : Int) := by omega
          have hqq : (q : Int) ≤ (q : Int) + (n : Int) := by omega
          rw [Int.natCast_add]
          go_wp2_with fail
          refine (rkind_calls _ _ (by unfold maxLen; simp; omega)).mono ?_
          rintro e w2 ⟨rfl, hb2⟩
          rw [Hx.out]
          have hgo := Hgo.out
          have hown2 := own_kept Hown1.out hb2
          have hbw2 := below2 Hbw1.out hb2
          have hbase2 := hbw2.size
          have Hown2 := Lib.hid hown2
          have Hbw2 := Lib.hid hbw2
          clear hb2 hown2 hbw2 Hgo
          generalize kindOf ((s.data.toList.drop q).take n) = k at *
          by_cases hk : k = 0
          · subst hk
            rw [if_pos rfl] at hgo
            subst hgo
            go_wp2_with fail
            go_ret3
            exact ⟨_, rfl, RdAt.nil _ _ _ _, Hbw2.out⟩
          · rw [if_neg hk] at hgo
            have hk1 : (k == 0) = false := by simpa using hk
            by_cases hlen : ts.length = 2048
            · rw [if_pos hlen] at hgo
              subst hgo
              have hl2 : ((ts.length : Int) == 2048) = true := by simp; omega
              clear hlen
              go_wp2_with fail
              go_ret3
              exact ⟨_, rfl, RdAt.nil _ _ _ _, Hbw2.out⟩
            · rw [if_neg hlen] at hgo
              have hl2 : ((ts.length : Int) == 2048) = false := by simp; omega
              have Hgo := Lib.hid hgo
              clear hgo
              go_wp2_with (first | (at_builtin; refine append_lit _ _ _ rfl _ _ 22 rfl w.heap.size i0 _ 3 32 Try.underlying22 hi hz0 hz1 hz2 rfl (by decide) _ _ _ rfl Hown2.out 1 _ rfl rfl rfl rfl (by omega) (by decide) hbase2 Hbw2.out ?_; intro v' w4 hown4 hg4 hb4))
              have hx4 : s.extract q (q + n) = ⟨((s.data.toList.drop q).take n).toArray⟩ := by
                rw [← Hx.out]
              rw [hx4] at hown4
              have Hown4 := Lib.hid hown4
              have Hb4 := Lib.hid hb4
              clear hown4 hg4 hb4 hx4
              go_wp2_with fail
              go_roundw
              case rel =>
                refine ⟨ts ++ [⟨k, (s.data.toList.drop q).take n, q⟩], q + n, f, by go_num, by omega, by simp; omega, ?_, Hb4.out, by omega, ?_⟩
                · have := Hown4.out
                  rw [tokCells_snoc, List.length_append]
                  exact this
                · rw [← Hgo.out, List.drop_drop]
              case measure => simp [intOf]; omega
        · rw [if_pos rfl] at hgo
          have Hgo := Lib.hid hgo
          clear hgo
          go_wp2_with fail
          go_roundw
          case rel => exact ⟨ts, q + 1, f, by go_num, by omega, hts, Hown.out, Hbw.out, by omega, by rw [← Hgo.out, List.drop_drop]⟩
          case measure => simp [intOf]; omega
      · go_wp2_with fail
        go_ret3
        cases f with
        | zero => omega
        | succ f =>
          have hgo := Hgo.out
          rw [List.drop_of_length_le (by simpa using hlt)] at hgo
          simp only [rscanGo, if_true] at hgo
          subst hgo
          exact ⟨_, rfl, RdAt.of_own Hown.out (by show ts.length ≤ _; omega), Hbw.out⟩
end Go.Proofs.Ytmdaedeagiamkaa
