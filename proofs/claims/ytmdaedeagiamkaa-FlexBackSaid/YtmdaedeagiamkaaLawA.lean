/- What the statements' own helpers answer: same. -/
import Derived.Test.YtmdaedeagiamkaaFlexP
set_option linter.unusedVariables false
set_option linter.unusedSimpArgs false
namespace Go.Proofs.Ytmdaedeagiamkaa
open Go.RowKit

theorem pw_drewN {B : Nat} {w W : World} (h : Below B w W) (n : Nat) : Below B w (W.drewN n) := ⟨h.os, h.tape, h.output, h.size, h.block⟩
/-- The same kinds and texts (and places, if they count). -/
def SameT (pl : Bool) (ta tb : List Tok) : Prop := ta.length = tb.length ∧ ∀ k (ha : k < ta.length) (hb : k < tb.length), ta[k].kind = tb[k].kind ∧ ta[k].text = tb[k].text ∧ (pl = true → ta[k].at_ = tb[k].at_)

set_option maxRecDepth 100000 in
theorem same_calls (va vb : Value) (ta tb : List Tok) (pl : Bool) (w : World) (ha : RdAt w va ta.length 3 (tokCells ta)) (hb : RdAt w vb tb.length 3 (tokCells tb)) (hs : SameT pl ta tb) :
    Calls Try.prog 13 #[va, vb, .bool pl] w fun e w' => e = .returned (.bool true) ∧ Below w.heap.size w w' := by
  obtain ⟨hlen, hk⟩ := hs
  obtain ⟨n, hn⟩ : ∃ n, ta.length = n := ⟨_, rfl⟩
  rw [← hlen, hn] at hb
  rw [hn] at ha
  rw [hn] at hlen
  obtain ⟨Aa, ca, rfl⟩ := ha.slice
  obtain ⟨Ab, cb, rfl⟩ := hb.slice
  have hmax := ha.2.1
  have Ha := Lib.hid ha
  have Hb := Lib.hid hb
  have Hk := Lib.hid hk
  have Hn := Lib.hid hn
  have Hlen := Lib.hid hlen
  clear ha hb hk hn hlen
  go_enter Try.func13, Try.ntmps13
  go_wp2_with fail
  go_loopw [7] (fun i W => ∃ k : Nat, k ≤ n ∧ i = .int .i64 k ∧ Below w.heap.size w W) (fun i _ => n - (intOf i).toNat)
  case atStart => exact ⟨0, by omega, rfl, Below.refl _ _⟩
  case round =>
    obtain ⟨k, hkn, rfl, hbel⟩ := hrel
    have Hbel := Lib.hid hbel
    clear hbel
    by_cases hlt : k < n
    · obtain ⟨ba, oa, ca', hsa, _, hla, hca⟩ := Ha.out.pos (by omega)
      obtain ⟨bb, ob, cb', hsb, _, hlb, hcb⟩ := Hb.out.pos (by omega)
      injection hsa with h1 h2 h3
      injection hsb with h4 h5 h6
      subst h1 h4
      have hka : k < ta.length := by have := Hn.out; omega
      have hkb : k < tb.length := by have := Hn.out; have := Hlen.out; omega
      obtain ⟨e1, e2, e3⟩ := Hk.out k hka hkb
      have a0 : wr.cell? ⟨ba, oa + k * 3, none⟩ = some (.int .i64 ta[k].kind) := by
        rw [(bcell Hbel.out).1 ba _ hla]; exact hca (k * 3) _ (tokCells_get ta k hka 0 (by omega))
      have a1 : wr.cell? ⟨ba, oa + k * 3 + 1, none⟩ = some (.string ⟨ta[k].text.toArray⟩) := by
        rw [(bcell Hbel.out).1 ba _ hla]; exact hca (k * 3 + 1) _ (tokCells_get ta k hka 1 (by omega))
      have a2 : wr.cell? ⟨ba, oa + k * 3 + 2, none⟩ = some (.int .i64 ta[k].at_) := by
        rw [(bcell Hbel.out).1 ba _ hla]; exact hca (k * 3 + 2) _ (tokCells_get ta k hka 2 (by omega))
      have b0 : wr.cell? ⟨bb, ob + k * 3, none⟩ = some (.int .i64 ta[k].kind) := by
        rw [(bcell Hbel.out).1 bb _ hlb, e1]; exact hcb (k * 3) _ (tokCells_get tb k hkb 0 (by omega))
      have b1 : wr.cell? ⟨bb, ob + k * 3 + 1, none⟩ = some (.string ⟨ta[k].text.toArray⟩) := by
        rw [(bcell Hbel.out).1 bb _ hlb, e2]; exact hcb (k * 3 + 1) _ (tokCells_get tb k hkb 1 (by omega))
      have b2 : wr.cell? ⟨bb, ob + k * 3 + 2, none⟩ = some (.int .i64 tb[k].at_) := by
        rw [(bcell Hbel.out).1 bb _ hlb]; exact hcb (k * 3 + 2) _ (tokCells_get tb k hkb 2 (by omega))
      clear hca hcb h2 h3 h5 h6 hla hlb
      generalize ta[k].kind = kd at *
      generalize ta[k].text = tx at *
      generalize ta[k].at_ = p1 at *
      generalize tb[k].at_ = p2 at *
      have E3 := Lib.hid e3
      clear e1 e2 e3
      cases pl
      · go_wp2_with fail
        go_quiet (fail)
        go_wp2_with fail
        go_roundw
        case rel => exact ⟨k + 1, by omega, by go_num, pw_drewN Hbel.out _⟩
        case measure => simp [intOf]; omega
      · obtain rfl : p1 = p2 := E3.out rfl
        go_wp2_with fail
        go_quiet (fail)
        go_wp2_with fail
        go_roundw
        case rel => exact ⟨k + 1, by omega, by go_num, pw_drewN Hbel.out _⟩
        case measure => simp [intOf]; omega
    · obtain rfl : k = n := by omega
      go_wp2_with fail
      go_ret
      exact ⟨rfl, Hbel.out⟩

theorem scanLive : scan [120, 61, 49, 46, 53, 59] = ([⟨1, [120], 0⟩, ⟨5, [61], 1⟩, ⟨4, [49, 46, 53], 2⟩, ⟨5, [59], 5⟩], 0, 0) := by decide +kernel
theorem nameLive : isName [97, 95, 49] = true := by decide +kernel
theorem wordLive : isWord [114, 101, 97, 100] = true := by decide +kernel

set_option maxRecDepth 100000 in
theorem live_calls (w : World) :
    Calls Try.prog 12 #[] w fun e w' => e = .returned (.bool true) ∧ Below w.heap.size w w' := by
  go_enter Try.func12, Try.ntmps12
  go_wp2_with fail
  refine (scan_calls _ _ (by decide)).mono ?_
  rintro e w1 ⟨v, rfl, hrd, hb⟩
  have hs : scan (⟨#[120, 61, 49, 46, 53, 59]⟩ : ByteArray).data.toList = _ := scanLive
  rw [hs] at hrd ⊢
  obtain ⟨b, o, c, rfl, hle, hbl, hc⟩ := hrd.pos (by decide)
  have c0 : w1.cell? ⟨b, o, none⟩ = some (.int .i64 1) := hc 0 _ rfl
  have c1 : w1.cell? ⟨b, o + 3, none⟩ = some (.int .i64 5) := hc 3 _ rfl
  have c2 : w1.cell? ⟨b, o + 6, none⟩ = some (.int .i64 4) := hc 6 _ rfl
  have Hb := Lib.hid hb
  clear hc hrd hb hs hle hbl
  go_wp2_with fail
  refine (isName_calls _ _ (by decide)).mono ?_
  rintro e w2 ⟨rfl, hb2⟩
  rw [show isName (⟨#[97, 95, 49]⟩ : ByteArray).data.toList = true from nameLive]
  replace Hb := Lib.hid (below2 Hb.out hb2)
  clear hb2
  go_wp2_with fail
  refine (isWord_calls _ _).mono ?_
  rintro e w3 ⟨rfl, hb3⟩
  rw [show isWord (⟨#[114, 101, 97, 100]⟩ : ByteArray).data.toList = true from wordLive]
  replace Hb := Lib.hid (below2 Hb.out hb3)
  clear hb3
  go_wp2_with fail
  go_ret
  exact ⟨rfl, Hb.out⟩
end Go.Proofs.Ytmdaedeagiamkaa
