/- FlexScans, FlexNames: what the statements' functions answer. -/
import Derived.Test.YtmdaedeagiamkaaLawA
set_option linter.unusedVariables false
set_option linter.unusedSimpArgs false
namespace Go.Proofs.Ytmdaedeagiamkaa
open Go.RowKit

theorem maxLen_of {n : Nat} (h : n ≤ 140737488351232) : n ≤ maxLen := by unfold maxLen; omega
theorem SameT.refl (pl : Bool) (ts : List Tok) : SameT pl ts ts := ⟨rfl, fun k _ _ => ⟨rfl, rfl, fun _ => rfl⟩⟩

theorem FlexScans_walk (a0 : ByteArray) (w : World) (h0 : a0.size ≤ 140737488351232) :
    Calls Try.prog 3 #[.string a0] w fun e w' => e = .returned (.bool true) ∧ Below w.heap.size w w' := by
  have H0 := Lib.hid (maxLen_of h0)
  clear h0
  go_enter Try.func3, Try.ntmps3
  go_wp2_with fail
  refine (scan_calls _ _ H0.out).mono ?_
  rintro e w1 ⟨v1, rfl, hr1, hb1⟩
  have Hr1 := Lib.hid hr1
  have Hb1 := Lib.hid hb1
  clear hr1 hb1
  go_wp2_with fail
  refine (rscan_calls _ _ H0.out).mono ?_
  rintro e w2 ⟨v2, rfl, hr2, hb2⟩
  rw [scan_eq] at hr2 ⊢
  have Hr2 := Lib.hid hr2
  replace Hr1 := Lib.hid (Hr1.out.below hb2)
  replace Hb1 := Lib.hid (below2 Hb1.out hb2)
  clear hr2 hb2
  generalize scan a0.data.toList = R at *
  obtain ⟨ts, e, p⟩ := R
  go_wp2_with fail
  refine (live_calls _).mono ?_
  rintro e' w3 ⟨rfl, hb3⟩
  replace Hr1 := Lib.hid (Hr1.out.below hb3)
  replace Hr2 := Lib.hid (Hr2.out.below hb3)
  replace Hb1 := Lib.hid (below2 Hb1.out hb3)
  clear hb3
  go_wp2_with fail
  refine (same_calls _ _ _ _ _ _ Hr1.out Hr2.out (SameT.refl _ _)).mono ?_
  rintro e' w4 ⟨rfl, hb4⟩
  replace Hb1 := Lib.hid (below2 Hb1.out hb4)
  clear hb4
  go_wp2_with fail
  go_ret
  exact ⟨rfl, Hb1.out⟩

theorem name_not_word (l : List UInt8) : (isName l && isWord l) = false := by
  unfold isName
  cases isWord l <;> simp
theorem FlexNames_walk (a0 : ByteArray) (w : World) (h0 : a0.size ≤ 140737488351232) :
    Calls Try.prog 4 #[.string a0] w fun e w' => e = .returned (.bool true) ∧ Below w.heap.size w w' := by
  have H0 := Lib.hid (maxLen_of h0)
  clear h0
  go_enter Try.func4, Try.ntmps4
  go_wp2_with fail
  refine (live_calls _).mono ?_
  rintro e' w1 ⟨rfl, hb⟩
  have Hb := Lib.hid hb
  clear hb
  go_wp2_with fail
  refine (isName_calls _ _ H0.out).mono ?_
  rintro e' w2 ⟨rfl, hb⟩
  replace Hb := Lib.hid (below2 Hb.out hb)
  clear hb
  go_wp2_with fail
  refine (risName_calls _ _ H0.out).mono ?_
  rintro e' w3 ⟨rfl, hb⟩
  replace Hb := Lib.hid (below2 Hb.out hb)
  clear hb
  go_wp2_with fail
  refine (isWord_calls _ _).mono ?_
  rintro e' w4 ⟨rfl, hb⟩
  replace Hb := Lib.hid (below2 Hb.out hb)
  clear hb
  go_wp2_with fail
  refine (risWord_calls _ _).mono ?_
  rintro e' w5 ⟨rfl, hb⟩
  replace Hb := Lib.hid (below2 Hb.out hb)
  clear hb
  go_wp2_with fail
  refine (isName_calls _ _ H0.out).mono ?_
  rintro e' w6 ⟨rfl, hb⟩
  replace Hb := Lib.hid (below2 Hb.out hb)
  clear hb
  have hnw := name_not_word a0.data.toList
  generalize isName a0.data.toList = b1 at *
  generalize hw2 : isWord a0.data.toList = b2 at *
  have Hw2 := Lib.hid hw2
  have Hnw := Lib.hid hnw
  clear hnw hw2
  cases b1
  · go_wp2_with fail
    go_ret
    exact ⟨rfl, Hb.out⟩
  · have hb2 : b2 = false := by have := Hnw.out; simpa using this
    subst hb2
    go_wp2_with fail
    refine (isWord_calls _ _).mono ?_
    rintro e' w7 ⟨rfl, hb⟩
    rw [Hw2.out]
    replace Hb := Lib.hid (below2 Hb.out hb)
    clear hb
    go_wp2_with fail
    go_ret
    exact ⟨rfl, Hb.out⟩
end Go.Proofs.Ytmdaedeagiamkaa
