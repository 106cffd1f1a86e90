/- FlexOne: what the statement's function answers. -/
import Derived.Test.YtmdaedeagiamkaaLawB
import Derived.Test.YtmdaedeagiamkaaFlexQ
set_option linter.unusedVariables false
set_option linter.unusedSimpArgs false
namespace Go.Proofs.Ytmdaedeagiamkaa
open Go.RowKit

/-- The cells of the first token. -/
theorem first_cells {w : World} {v : Value} {ts : List Tok} (h : RdAt w v ts.length 3 (tokCells ts)) (h1 : 0 < ts.length) :
    ∃ b o c, v = .slice (some ⟨b, o, none⟩) ts.length c ∧ b < w.heap.size ∧ w.cell? ⟨b, o, none⟩ = some (.int .i64 ts[0].kind) ∧ w.cell? ⟨b, o + 1, none⟩ = some (.string ⟨ts[0].text.toArray⟩) ∧ w.cell? ⟨b, o + 2, none⟩ = some (.int .i64 ts[0].at_) := by
  obtain ⟨b, o, c, rfl, _, hb, hc⟩ := h.pos h1
  refine ⟨b, o, c, rfl, hb, ?_, ?_, ?_⟩
  · exact hc 0 _ (tokCells_get ts 0 h1 0 (by omega))
  · exact hc 1 _ (tokCells_get ts 0 h1 1 (by omega))
  · exact hc 2 _ (tokCells_get ts 0 h1 2 (by omega))

set_option maxRecDepth 100000 in
theorem FlexOne_walk (a0 : ByteArray) (w : World) (h0 : a0.size ≤ 140737488351232) :
    Calls Try.prog 8 #[.string a0] w fun e w' => e = .returned (.bool true) ∧ Below w.heap.size w w' := by
  have H0 := Lib.hid (maxLen_of h0)
  have Hl := Lib.hid (size_list a0)
  clear h0
  go_enter Try.func8, Try.ntmps8
  go_wp2_with fail
  refine (scan_calls _ _ H0.out).mono ?_
  rintro e w1 ⟨v1, rfl, hr1, hb1⟩
  have Hr := Lib.hid hr1
  have Hb := Lib.hid hb1
  clear hr1 hb1
  go_wp2_with fail
  refine (isName_calls _ _ H0.out).mono ?_
  rintro e' w2 ⟨rfl, hb⟩
  replace Hr := Lib.hid (Hr.out.below hb)
  replace Hb := Lib.hid (below2 Hb.out hb)
  clear hb
  by_cases hn : isName a0.data.toList = true
  · have hw : isWord a0.data.toList = false := by have := name_not_word a0.data.toList; rw [hn] at this; simpa using this
    have hlen : a0.size ≤ 16 := by
      unfold isName at hn; simp only [Bool.and_eq_true, decide_eq_true_eq] at hn; rw [Hl.out] at hn; exact hn.1.1.1.2
    have hsc : scan a0.data.toList = ([⟨1, a0.data.toList, 0⟩], 0, 0) := by
      have := whole_name (l := a0.data.toList) (Or.inl hn)
      rw [hw] at this
      exact scan_one this (by rw [Hl.out]; omega)
    rw [hsc] at Hr ⊢
    rw [hn]
    have Hw := Lib.hid hw
    clear hn hw hsc hlen
    go_wp2_with fail
    refine (isWord_calls _ _).mono ?_
    rintro e' w3 ⟨rfl, hb⟩
    rw [Hw.out]
    replace Hr := Lib.hid (Hr.out.below hb)
    replace Hb := Lib.hid (below2 Hb.out hb)
    clear hb
    go_wp2_with fail
    refine (live_calls _).mono ?_
    rintro e' w4 ⟨rfl, hb⟩
    replace Hr := Lib.hid (Hr.out.below hb)
    replace Hb := Lib.hid (below2 Hb.out hb)
    obtain ⟨b, o, c, rfl, hbl, c0, c1, c2⟩ := first_cells Hr.out (Nat.succ_pos 0)
    simp only [List.getElem_cons_zero] at c0 c1 c2
    have hs : (⟨a0.data.toList.toArray⟩ : ByteArray) = a0 := (string_mk a0).symm
    rw [hs] at c1
    clear hb hs hbl
    go_wp2_with fail
    go_ret
    exact ⟨rfl, Hb.out⟩
  · have hn' : isName a0.data.toList = false := by simpa using hn
    rw [hn']
    have Hn := Lib.hid hn'
    clear hn hn'
    go_wp2_with fail
    refine (isWord_calls _ _).mono ?_
    rintro e' w3 ⟨rfl, hb⟩
    replace Hr := Lib.hid (Hr.out.below hb)
    replace Hb := Lib.hid (below2 Hb.out hb)
    clear hb
    by_cases hw : isWord a0.data.toList = true
    · have hlen : a0.size ≤ 16 := by
        have : (wordsL.all fun x => decide (x.length ≤ 16)) = true := by decide +kernel
        have hw' := hw
        unfold isWord at hw'; rw [List.contains_iff_mem] at hw'
        have := List.all_eq_true.1 this _ hw'
        rw [Hl.out] at this
        simpa using this
      have hsc : scan a0.data.toList = ([⟨2, a0.data.toList, 0⟩], 0, 0) := by
        have := whole_name (l := a0.data.toList) (Or.inr hw)
        rw [if_pos hw] at this
        exact scan_one this (by rw [Hl.out]; omega)
      rw [hsc] at Hr ⊢
      rw [hw]
      have Hw := Lib.hid hw
      clear hw hsc hlen
      go_wp2_with fail
      refine (isWord_calls _ _).mono ?_
      rintro e' w4 ⟨rfl, hb⟩
      rw [Hw.out]
      replace Hr := Lib.hid (Hr.out.below hb)
      replace Hb := Lib.hid (below2 Hb.out hb)
      clear hb
      go_wp2_with fail
      refine (live_calls _).mono ?_
      rintro e' w5 ⟨rfl, hb⟩
      replace Hr := Lib.hid (Hr.out.below hb)
      replace Hb := Lib.hid (below2 Hb.out hb)
      obtain ⟨b, o, c, rfl, hbl, c0, c1, c2⟩ := first_cells Hr.out (Nat.succ_pos 0)
      simp only [List.getElem_cons_zero] at c0 c1 c2
      have hs : (⟨a0.data.toList.toArray⟩ : ByteArray) = a0 := (string_mk a0).symm
      rw [hs] at c1
      clear hb hs hbl
      go_wp2_with fail
      go_ret
      exact ⟨rfl, Hb.out⟩
    · have hw' : isWord a0.data.toList = false := by simpa using hw
      rw [hw']
      have hns := fun ts (h : scan a0.data.toList = (ts, 0, 0)) => name_of_scan h
      have Hns := Lib.hid hns
      have Hw := Lib.hid hw'
      clear hw hw' hns
      go_wp2_with fail
      refine (live_calls _).mono ?_
      rintro e' w5 ⟨rfl, hb⟩
      replace Hr := Lib.hid (Hr.out.below hb)
      replace Hb := Lib.hid (below2 Hb.out hb)
      clear hb
      generalize hR : scan a0.data.toList = R at *
      obtain ⟨ts, e, p⟩ := R
      by_cases he : e = 0
      · subst he
        have hp : p = 0 := by
          have := (scan_ends a0.data.toList).1
          rw [hR] at this
          exact this rfl
        by_cases h1 : ts.length = 1
        · obtain ⟨t, rfl⟩ : ∃ t, ts = [t] := by
            match ts, h1 with
            | [t], _ => exact ⟨t, rfl⟩
          obtain ⟨b, o, c, rfl, hbl, c0, c1, c2⟩ := first_cells Hr.out (Nat.succ_pos 0)
          simp only [List.getElem_cons_zero] at c0 c1 c2
          have hnm := Hns.out [t] (by rw [hp]) 0 (Nat.succ_pos 0)
          simp only [List.getElem_cons_zero] at hnm
          clear hR hbl h1
          by_cases ht : t.text = a0.data.toList
          · have k1 : t.kind ≠ 1 := fun h => by
              have := hnm (Or.inl h); rw [ht, Hn.out, Hw.out] at this; simp at this
            have k2 : t.kind ≠ 2 := fun h => by
              have := hnm (Or.inr h); rw [ht, Hn.out, Hw.out] at this; simp at this
            have q1 : (t.kind == 1) = false := by simpa using k1
            have q2 : (t.kind == 2) = false := by simpa using k2
            rw [ht] at c1
            have hs : (⟨a0.data.toList.toArray⟩ : ByteArray) = a0 := (string_mk a0).symm
            rw [hs] at c1
            clear hnm ht hs k1 k2 Hns
            go_wp2_with fail
            go_ret
            exact ⟨rfl, Hb.out⟩
          · have q1 : (t.text == a0.toList) = false := by rw [ByteArray.toList_eq]; simpa using ht
            clear hnm ht Hns
            go_wp2_with fail
            go_ret
            exact ⟨rfl, Hb.out⟩
        · obtain ⟨A, c, rfl⟩ := Hr.out.slice
          have q1 : ((ts.length : Int) == 1) = false := by simp; omega
          clear hR h1
          go_wp2_with fail
          go_ret
          exact ⟨rfl, Hb.out⟩
      · have q1 : (e == 0) = false := by simpa using he
        clear hR he
        go_wp2_with fail
        go_ret
        exact ⟨rfl, Hb.out⟩
end Go.Proofs.Ytmdaedeagiamkaa
