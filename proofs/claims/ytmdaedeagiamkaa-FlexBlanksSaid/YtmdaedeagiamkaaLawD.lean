/- FlexPlaces: what the statement's function answers. -/
import Derived.Test.YtmdaedeagiamkaaLawC
set_option linter.unusedVariables false
set_option linter.unusedSimpArgs false
namespace Go.Proofs.Ytmdaedeagiamkaa
open Go.RowKit

set_option maxRecDepth 100000 in
theorem FlexPlaces_walk (a0 : ByteArray) (w : World) (h0 : a0.size ≤ 140737488351232) :
    Calls Try.prog 6 #[.string a0] w fun e w' => e = .returned (.bool true) ∧ Below w.heap.size w w' := by
  have H0 := Lib.hid (maxLen_of h0)
  have Hl := Lib.hid (size_list a0)
  go_enter Try.func6, Try.ntmps6
  go_wp2_with fail
  refine (scan_calls _ _ H0.out).mono ?_
  rintro e w1 ⟨v1, rfl, hr1, hb1⟩
  have Hr := Lib.hid hr1
  have Hb := Lib.hid hb1
  have hg := scan_good a0.data.toList
  have hcn := scan_count a0.data.toList
  clear hr1 hb1
  generalize scan a0.data.toList = R at *
  obtain ⟨ts, e, p⟩ := R
  by_cases he : e = 0
  · subst he
    obtain ⟨p', hg⟩ := hg rfl
    have Hg := Lib.hid hg
    have hcn : ts.length ≤ 2048 := hcn
    clear hg
    go_wp2_with fail
    go_loopw [6] (fun i W => ∃ k : Nat, k ≤ ts.length ∧ i = .int .i64 k ∧ Below w1.heap.size w1 W) (fun i _ => ts.length - (intOf i).toNat)
    case atStart => exact ⟨0, by omega, rfl, Below.refl _ _⟩
    case round =>
      obtain ⟨k, hkn, rfl, hbel⟩ := hrel
      have Hbel := Lib.hid hbel
      clear hbel
      by_cases hlt : k < ts.length
      · obtain ⟨b, o, c, rfl, _, hbl, hc⟩ := Hr.out.pos (by omega)
        have g1 : wr.cell? ⟨b, o + k * 3 + 1, none⟩ = some (.string ⟨ts[k].text.toArray⟩) := by
          rw [(bcell Hbel.out).1 b _ hbl]; exact hc (k * 3 + 1) _ (tokCells_get ts k hlt 1 (by omega))
        have g2 : wr.cell? ⟨b, o + k * 3 + 2, none⟩ = some (.int .i64 ts[k].at_) := by
          rw [(bcell Hbel.out).1 b _ hbl]; exact hc (k * 3 + 2) _ (tokCells_get ts k hlt 2 (by omega))
        obtain ⟨hw, hle, htk⟩ := Hg.out.1 k hlt
        have hpl := Hg.out.2.2
        rw [Hl.out] at hpl
        have hprev : ∀ j (hj : j + 1 = k), ts[j].at_ + ts[j].text.length ≤ ts[k].at_ := by
          intro j hj; subst hj; exact Hg.out.2.1 j hlt
        have hx : (a0.extract ts[k].at_ (ts[k].at_ + ts[k].text.length)).toList = ts[k].text := by
          rw [Lib.extract_toList, Nat.add_sub_cancel_left]; exact htk
        have hne := hw.1
        clear hw htk
        by_cases hk0 : 0 < k
        · obtain ⟨j, rfl⟩ : ∃ j, k = j + 1 := ⟨k - 1, by omega⟩
          have p1 : wr.cell? ⟨b, o + j * 3 + 1, none⟩ = some (.string ⟨ts[j].text.toArray⟩) := by
            rw [(bcell Hbel.out).1 b _ hbl]; exact hc (j * 3 + 1) _ (tokCells_get ts j (by omega) 1 (by omega))
          have p2 : wr.cell? ⟨b, o + j * 3 + 2, none⟩ = some (.int .i64 ts[j].at_) := by
            rw [(bcell Hbel.out).1 b _ hbl]; exact hc (j * 3 + 2) _ (tokCells_get ts j (by omega) 2 (by omega))
          have hpv := hprev j rfl
          clear hc hprev
          generalize ts[j + 1].at_ = p at *
          generalize ts[j + 1].text = t at *
          generalize ts[j].at_ = q at *
          generalize ts[j].text = u at *
          have e1 : t.isEmpty = false := by cases t with | nil => exact absurd rfl hne | cons c t => rfl
          have i1 : (p : Int) + (t.length : Int) ≤ (a0.size : Int) := by omega
          have i2 : (q : Int) + (u.length : Int) ≤ (p : Int) := by omega
          have d1 : decide ((p : Int) < (q : Int) + (u.length : Int)) = false := by simp; omega
          have d2 : decide ((a0.size : Int) < (p : Int) + (t.length : Int)) = false := by simp; omega
          have i3 : (p : Int) ≤ (p : Int) + (t.length : Int) := by omega
          have d3 : decide ((p : Int) < 0) = false := by simp
          have d4 : ((a0.extract p (p + t.length)).toList == t) = true := beq_iff_eq.2 hx
          clear hx hne
          go_wp2_with fail
          go_quiet (fail)
          go_wp2_with fail
          go_quiet (fail)
          go_wp2_with fail
          go_roundw
          case rel => exact ⟨j + 2, by omega, by go_num, pw_drewN Hbel.out _⟩
          case measure => simp [intOf]; omega
        · obtain rfl : k = 0 := by omega
          clear hc hprev
          simp only [Nat.zero_mul, Nat.add_zero] at g1 g2
          generalize ts[0].at_ = p at *
          generalize ts[0].text = t at *
          have e1 : t.isEmpty = false := by cases t with | nil => exact absurd rfl hne | cons c t => rfl
          have i1 : (p : Int) + (t.length : Int) ≤ (a0.size : Int) := by omega
          have d2 : decide ((a0.size : Int) < (p : Int) + (t.length : Int)) = false := by simp; omega
          have i3 : (p : Int) ≤ (p : Int) + (t.length : Int) := by omega
          have d3 : decide ((p : Int) < 0) = false := by simp
          have d4 : ((a0.extract p (p + t.length)).toList == t) = true := beq_iff_eq.2 hx
          clear hx hne
          go_wp2_with fail
          go_quiet (fail)
          go_wp2_with fail
          go_quiet (fail)
          go_wp2_with fail
          go_roundw
          case rel => exact ⟨1, by omega, by go_num, pw_drewN Hbel.out _⟩
          case measure => simp [intOf]; omega
      · obtain ⟨A, c, rfl⟩ := Hr.out.slice
        go_wp2_with fail
        refine (live_calls _).mono ?_
        rintro e' w5 ⟨rfl, hb⟩
        replace Hb := Lib.hid (below2 (below2 Hb.out Hbel.out) hb)
        clear hb
        go_wp2_with fail
        go_ret
        exact ⟨rfl, Hb.out⟩
  · have q1 : (e != 0) = true := by simpa using he
    clear he
    go_wp2_with fail
    refine (live_calls _).mono ?_
    rintro e' w5 ⟨rfl, hb⟩
    replace Hb := Lib.hid (below2 Hb.out hb)
    clear hb
    go_wp2_with fail
    go_ret
    exact ⟨rfl, Hb.out⟩
end Go.Proofs.Ytmdaedeagiamkaa
