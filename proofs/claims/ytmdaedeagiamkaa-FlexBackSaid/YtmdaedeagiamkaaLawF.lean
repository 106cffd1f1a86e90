/- FlexBlanks: what the statement's function answers. -/
import Derived.Test.YtmdaedeagiamkaaLawE
set_option linter.unusedVariables false
set_option linter.unusedSimpArgs false
namespace Go.Proofs.Ytmdaedeagiamkaa
open Go.RowKit

/-- Tokens, each behind blanks. -/
def gapped (bl : List UInt8) (ts : List Tok) : List UInt8 := ts.flatMap fun t => bl ++ t.text
theorem gapped_snoc (bl : List UInt8) (ts : List Tok) (t : Tok) : gapped bl (ts ++ [t]) = gapped bl ts ++ (bl ++ t.text) := by simp [gapped]
theorem gapped_sep (bl : List UInt8) (hb : Blanks bl) (ts : List Tok) (h : ∀ k (hk : k < ts.length), Whole ts[k].text ts[k].kind) : ∃ S, gapped bl ts ++ bl = bl ++ S ∧ Sep S ts := by
  induction ts with
  | nil => exact ⟨[], by simp [gapped], Sep.nil⟩
  | cons t ts ih =>
    obtain ⟨S, h1, h2⟩ := ih fun k hk => h (k + 1) (by simpa using hk)
    refine ⟨t.text ++ (bl ++ S), ?_, Sep.cons t bl S ts (h 0 (by simp)) hb h2⟩
    rw [← h1]; simp [gapped]
theorem gapped_len (bl : List UInt8) (hb : bl.length ≤ 2) (ts : List Tok) (h : ∀ k (hk : k < ts.length), ts[k].text.length ≤ 8192) : (gapped bl ts).length ≤ ts.length * 8194 := by
  induction ts with
  | nil => simp [gapped]
  | cons t ts ih =>
    have := ih fun k hk => h (k + 1) (by simpa using hk)
    have h0 := h 0 (by simp)
    simp only [List.getElem_cons_zero] at h0
    simp [gapped] at this ⊢
    omega
theorem scan_len (l : List UInt8) (h : (scan l).2.1 = 0) : l.length ≤ 8192 := by
  unfold scan at h
  split at h
  · exact absurd (show (5 : Int) = 0 from h) (by decide)
  · omega
def blOf (n : Nat) : List UInt8 := [[32], [9], [10, 32], [13]].getD (n % 4) []
theorem blOf_ok (n : Nat) : Blanks (blOf n) ∧ (blOf n).length ≤ 2 ∧ 1 ≤ (blOf n).length := by
  have h : ∀ m, m < 4 → Blanks ([[32], [9], [10, 32], [13]].getD m []) ∧ ([[32], [9], [10, 32], [13]].getD m [] : List UInt8).length ≤ 2 ∧ 1 ≤ ([[32], [9], [10, 32], [13]].getD m [] : List UInt8).length := by
    unfold Blanks
    decide +kernel
  exact h _ (Nat.mod_lt _ (by omega))

set_option maxHeartbeats 1000000 in
set_option maxRecDepth 100000 in
theorem FlexBlanks_walk (a0 : ByteArray) (a1 : Int) (w : World) (h0 : a0.size ≤ 140737488351232) (h1 : (Lit.int .u8 a1).wf = true) :
    Calls Try.prog 5 #[.string a0, .int .u8 a1] w fun e w' => e = .returned (.bool true) ∧ Below w.heap.size w w' := by
  have H0 := Lib.hid (maxLen_of h0)
  have Hl := Lib.hid (size_list a0)
  have b1 : 0 ≤ a1 ∧ a1 ≤ 255 := by simp [Lit.wf, IntKind.min, IntKind.max, IntKind.bits, IntKind.signed] at h1; omega
  obtain ⟨n, rfl⟩ := Int.eq_ofNat_of_zero_le b1.1
  have hn255 : n ≤ 255 := by omega
  clear h1 b1
  go_enter Try.func5, Try.ntmps5
  go_wp2_with fail
  refine (scan_calls _ _ H0.out).mono ?_
  rintro e w1 ⟨v1, rfl, hr1, hb1⟩
  have Hr := Lib.hid hr1
  have Hb := Lib.hid hb1
  have hg := scan_good a0.data.toList
  have hcn := scan_count a0.data.toList
  have hsl := scan_len a0.data.toList
  clear hr1 hb1
  generalize scan a0.data.toList = R at *
  obtain ⟨ts, e, p⟩ := R
  by_cases he : e = 0
  · subst he
    obtain ⟨p', hg⟩ := hg rfl
    have hg : Good a0.data.toList p' ts := hg
    have Hg := Lib.hid hg
    have hcn : ts.length ≤ 2048 := hcn
    have hsl : a0.size ≤ 8192 := by have := hsl rfl; rw [Hl.out] at this; exact this
    have hw : ∀ k (hk : k < ts.length), Whole ts[k].text ts[k].kind := fun k hk => (Hg.out.1 k hk).1
    have hlk : ∀ k (hk : k < ts.length), ts[k].text.length ≤ 8192 := fun k hk => by
      have h1 := (Hg.out.1 k hk).2.1
      have h2 := Hg.out.2.2
      rw [Hl.out] at h2
      omega
    have Hw := Lib.hid hw
    have Hlk := Lib.hid hlk
    obtain ⟨ob1, ob2, ob3⟩ := blOf_ok n
    have Ob1 := Lib.hid ob1
    clear hg hw hlk ob1
    have hrm : (n : Int).tmod 4 = ((n % 4 : Nat) : Int) := by rw [IntWalk.rem_in _ _ (by omega)]; omega
    have hm4 : n % 4 < 4 := Nat.mod_lt _ (by omega)
    have hbl : ([Value.string ⟨#[32]⟩, .string ⟨#[9]⟩, .string ⟨#[10, 32]⟩, .string ⟨#[13]⟩] : List Value)[n % 4]'(by simpa using hm4) = .string ⟨(blOf n).toArray⟩ := by
      unfold blOf
      have : n % 4 = 0 ∨ n % 4 = 1 ∨ n % 4 = 2 ∨ n % 4 = 3 := by omega
      rcases this with h | h | h | h <;> simp [h]
    go_wp2_with fail
    clear hbl hrm
    generalize blOf n = bl at *
    refine wp_named (fun W hbw hc hz => ?_)
    replace Hb := Lib.hid (below2 Hb.out hbw)
    replace Hr := Lib.hid (Hr.out.below hbw)
    clear hbw hc hz
    go_loop [9, 10] (fun t i => ∃ k : Nat, k ≤ ts.length ∧ i = .int .i64 k ∧ t = .string ⟨(gapped bl (ts.take k)).toArray⟩) (fun _ i => ts.length - (intOf i).toNat)
    case atStart => exact ⟨0, by omega, rfl, rfl⟩
    case round =>
      obtain ⟨k, hkn, rfl, rfl⟩ := hrel
      by_cases hlt : k < ts.length
      · obtain ⟨b, o, c, rfl, _, hbl, hc⟩ := Hr.out.pos (by omega)
        have g1 : W.cell? ⟨b, o + k * 3 + 1, none⟩ = some (.string ⟨ts[k].text.toArray⟩) := hc (k * 3 + 1) _ (tokCells_get ts k hlt 1 (by omega))
        have hl1 := gapped_len bl ob2 (ts.take k) (fun j hj => by rw [List.getElem_take]; exact Hlk.out j _)
        have hl2 := Hlk.out k hlt
        have htk : gapped bl (ts.take (k + 1)) = gapped bl (ts.take k) ++ (bl ++ ts[k].text) := by rw [List.take_succ_eq_append_getElem hlt, gapped_snoc]
        have hs : (⟨(gapped bl (ts.take k)).toArray⟩ ++ (⟨bl.toArray⟩ ++ ⟨ts[k].text.toArray⟩) : ByteArray) = ⟨(gapped bl (ts.take (k + 1))).toArray⟩ := by
          rw [htk]; apply string_ext; simp [ByteArray.data_append]
        have Hs := Lib.hid hs
        rw [List.length_take] at hl1
        have hl3 : (gapped bl (ts.take k)).length ≤ 2048 * 8194 := by
          have : min k ts.length * 8194 ≤ 2048 * 8194 := Nat.mul_le_mul_right _ (by omega)
          omega
        clear hc hs htk hl1
        generalize gapped bl (ts.take k) = G at *
        generalize ts[k].text = u at *
        go_wp2_with fail
        go_round
        case rel => exact ⟨k + 1, by omega, by go_num, by rw [Hs.out]⟩
        case measure => simp [intOf]; omega
      · obtain rfl : k = ts.length := by omega
        obtain ⟨A, c, rfl⟩ := Hr.out.slice
        rw [List.take_length]
        obtain ⟨S, hS1, hS2⟩ := gapped_sep bl Ob1.out ts Hw.out
        have hl1 := gapped_len bl ob2 ts Hlk.out
        have hl3 : (gapped bl ts).length ≤ 2048 * 8194 := by
          have : ts.length * 8194 ≤ 2048 * 8194 := Nat.mul_le_mul_right _ (by omega)
          omega
        have hs : (⟨(gapped bl ts).toArray⟩ ++ ⟨bl.toArray⟩ : ByteArray) = ⟨(bl ++ S).toArray⟩ := by
          rw [← hS1]; apply string_ext; simp [ByteArray.data_append]
        have hlen : (bl ++ S).length = (gapped bl ts).length + bl.length := by rw [← hS1, List.length_append]
        have Hs := Lib.hid hs
        have HS2 := Lib.hid hS2
        have Hlen := Lib.hid hlen
        clear hs hS1 hS2 hl1 hlen
        generalize gapped bl ts = G at *
        go_wp2_with fail
        rw [Hs.out]
        refine (scan_calls _ _ (by rw [size_mk, Hlen.out]; unfold maxLen; omega)).mono ?_
        rintro e w2 ⟨v2, rfl, hr2, hb⟩
        have hX : (⟨(bl ++ S).toArray⟩ : ByteArray).data.toList = bl ++ S := by simp
        rw [hX] at hr2 ⊢
        replace Hr := Lib.hid (Hr.out.below hb)
        replace Hb := Lib.hid (below2 Hb.out hb)
        have Hr2 := Lib.hid hr2
        clear hr2 hb hX
        by_cases hbig : 8192 < G.length + bl.length
        · have d1 : decide ((8192 : Int) < (G.length : Int) + (bl.length : Int)) = true := by simp; omega
          go_wp2_with fail
          refine (live_calls _).mono ?_
          rintro e' w5 ⟨rfl, hb⟩
          replace Hb := Lib.hid (below2 Hb.out hb)
          clear hb
          go_wp2_with fail
          go_ret
          exact ⟨rfl, Hb.out⟩
        · have d1 : decide ((8192 : Int) < (G.length : Int) + (bl.length : Int)) = false := by simp; omega
          obtain ⟨z1, z2, z3⟩ := scan_sep bl S ts Ob1.out.2 HS2.out (by rw [Hlen.out]; omega) hcn
          generalize hR2 : scan (bl ++ S) = R2 at *
          obtain ⟨ts2, e2, p2⟩ := R2
          injection z1 with z4 z5
          have hsame : SameT false ts ts2 := ⟨z2.symm, fun k ha hb => ⟨((z3 k hb ha).1).symm, ((z3 k hb ha).2).symm, fun h => by cases h⟩⟩
          have Hsame := Lib.hid hsame
          subst z4 z5
          clear z2 z3 hsame hR2
          go_wp2_with fail
          refine (live_calls _).mono ?_
          rintro e' w5 ⟨rfl, hb⟩
          replace Hr := Lib.hid (Hr.out.below hb)
          replace Hr2 := Lib.hid (Hr2.out.below hb)
          replace Hb := Lib.hid (below2 Hb.out hb)
          clear hb
          go_wp2_with fail
          refine (same_calls _ _ _ _ _ _ Hr.out Hr2.out Hsame.out).mono ?_
          rintro e' w6 ⟨rfl, hb⟩
          replace Hb := Lib.hid (below2 Hb.out hb)
          clear hb
          go_wp2_with fail
          go_ret
          exact ⟨rfl, Hb.out⟩
  · have q1 : (e != 0) = true := by simpa using he
    clear he
    go_wp2_with fail
    refine (live_calls _).mono ?_
    rintro e' w5 ⟨rfl, hb⟩
    replace Hb := Lib.hid (below2 Hb.out hb)
    clear hb
    go_wp2_with fail
    go_ret
    exact ⟨rfl, Hb.out⟩
end Go.Proofs.Ytmdaedeagiamkaa
