/- FlexNumbers: what the statement's function answers. -/
import Derived.Test.YtmdaedeagiamkaaLawD
import Derived.Deep.RegionWith
import Derived.Laws.BytesArg
set_option linter.unusedVariables false
set_option linter.unusedSimpArgs false
namespace Go.Proofs.Ytmdaedeagiamkaa
open Go.RowKit

/-- A number's digits. -/
def digs : Nat → Nat → List UInt8
  | 0, _ => []
  | f + 1, n => if n < 10 then [UInt8.ofNat (48 + n)] else digs f (n / 10) ++ [UInt8.ofNat (48 + n % 10)]
theorem digs_ok : ∀ f n, 1 ≤ f → (digs f n).length ≤ f ∧ digs f n ≠ [] ∧ ((digs f n).all fun c => isDi c.toNat) = true := by
  intro f
  induction f with
  | zero => intro n h; omega
  | succ f ih =>
    intro n _
    simp only [digs]
    have hd : ∀ m, m < 10 → isDi ((UInt8.ofNat (48 + m)).toNat : Int) = true := by
      intro m hm
      rw [UInt8.toNat_ofNat']
      unfold isDi
      simp
      omega
    have h1' : ∀ m, m < 10 → (([UInt8.ofNat (48 + m)] : List UInt8).all fun c => isDi c.toNat) = true := by
      intro m hm
      rw [List.all_cons, hd m hm]; rfl
    split
    · rename_i h
      exact ⟨by simp, by simp, h1' n h⟩
    · have h := h1' (n % 10) (Nat.mod_lt _ (by omega))
      cases f with
      | zero => exact ⟨by simp [digs], by simp, by rw [List.all_append, h]; rfl⟩
      | succ f =>
        obtain ⟨h1, h2, h3⟩ := ih (n / 10) (by omega)
        exact ⟨by simp; omega, by simp, by rw [List.all_append, h3, h]; rfl⟩

theorem oneByte (x : Int) (W : World) (b : Nat) (h : W.cell? ⟨b, 0, none⟩ = some (.int .u8 x)) :
    (convert 50 9 (.slice (some ⟨b, 0, none⟩) 1 1)).run Try.prog W = .ok (.string ⟨#[UInt8.ofNat x.toNat]⟩) W := by
  refine run_convert_bytes_arg W 50 5 Try.underlying50 Try.underlying5 b 0 1 1 [x] rfl ?_ 9 Try.underlying9
  intro i hi
  obtain rfl : i = 0 := by omega
  exact h

theorem digits_calls (f : Nat) : ∀ (n : Nat) (w : World), n < 10 ^ f → n < 4294967296 → 1 ≤ f → f ≤ 20 →
    Calls Try.prog 18 #[.int .i64 n] w fun e w' => e = .returned (strV (digs f n)) ∧ Below w.heap.size w w' := by
  induction f with
  | zero => intro n w _ _ h; omega
  | succ f ih =>
    intro n w hn hb _ hf20
    by_cases h10 : n < 10
    · have hd : decide ((n : Int) < 10) = true := by simp; omega
      have hcv := oneByte (48 + (n : Int))
      have hf : strV (digs (f + 1) n) = .string ⟨#[UInt8.ofNat (48 + (n : Int)).toNat]⟩ := by
        simp only [digs, if_pos h10]
        rw [show (48 + (n : Int)).toNat = 48 + n by omega]
      have Hf := Lib.hid hf
      clear hf
      go_enter Try.func18, Try.ntmps18
      go_wp2_with fail
      go_ret
      exact ⟨by rw [Hf.out]; rfl, (Below.refl _ _).alloc (Nat.le_refl _) _⟩
    · have hd : decide ((n : Int) < 10) = false := by simp; omega
      have hq : IntKind.i64.wrap ((n : Int) / 10) = (n : Int) / 10 := IntWalk.i64_in ((n : Int) / 10) (by omega)
      have hr : (n : Int).tmod 10 = (n : Int) % 10 := IntWalk.rem_in _ _ (by omega)
      have hs : IntKind.i64.wrap (48 + (n : Int) % 10) = 48 + (n : Int) % 10 := IntWalk.i64_in (48 + (n : Int) % 10) (by omega)
      have hu : IntKind.u8.wrap (48 + (n : Int) % 10) = 48 + (n : Int) % 10 := IntWalk.u8_in (48 + (n : Int) % 10) (by omega)
      have hcv := oneByte (48 + (n : Int) % 10)
      have hf1 : 1 ≤ f := by
        cases f with
        | zero => simp at hn; omega
        | succ f => omega
      have hi : ∀ W, Calls Try.prog 18 #[.int .i64 ((n : Int) / 10)] W fun e w' => e = .returned (strV (digs f (n / 10))) ∧ Below W.heap.size W w' := by
        intro W
        have := ih (n / 10) W (by rw [Nat.pow_succ] at hn; omega) (by omega) hf1 (by omega)
        rw [show (n : Int) / 10 = ((n / 10 : Nat) : Int) by omega]
        exact this
      have Hi := Lib.hid hi
      have hf : (⟨(digs f (n / 10)).toArray⟩ : ByteArray) ++ ⟨#[48 + UInt8.ofNat (n % 10)]⟩ = ⟨(digs (f + 1) n).toArray⟩ := by
        simp only [digs, if_neg h10]
        apply string_ext
        rw [UInt8.ofNat_add]
        simp [ByteArray.data_append]
      have hlen := (digs_ok f (n / 10) hf1).1
      have Hf := Lib.hid hf
      clear hf ih hi
      go_enter Try.func18, Try.ntmps18
      go_wp2_with fail
      go_region_with (go_at_call 18; refine (Hi.out _).mono ?_; rintro e w1 ⟨rfl, hb1⟩; obtain ⟨hc1, hf1⟩ := bcell hb1)
      all_goals
        go_wp2_with fail
        go_ret
        refine ⟨congrArg (fun s => Ending.returned (Value.string s)) Hf.out, ?_⟩
        first
        | exact (((Below.refl _ _).drew).trans hb1).alloc (by have := hb1.size; simpa using this) _
        | exact (((Below.refl _ _).drew).alloc (by simp) _).trans (hb1.mono (by simp))
        | trace_state

theorem size_mk (l : List UInt8) : (⟨l.toArray⟩ : ByteArray).size = l.length := by simp [ByteArray.size]
theorem di_head {X : List UInt8} (h1 : X ≠ []) (h2 : (X.all fun c => isDi c.toNat) = true) : isDi (hd0 X) = true := by
  cases X with
  | nil => exact absurd rfl h1
  | cons c X => simp at h2; exact h2.1
theorem whole_int {X : List UInt8} (h1 : X ≠ []) (h2 : (X.all fun c => isDi c.toNat) = true) : Whole X 3 := by
  have hD := di_head h1 h2
  have hL := di_le _ hD
  refine ⟨h1, ?_, by decide, ?_⟩
  · unfold kindOf
    rw [not_word hL, not_name hL]
    unfold isIntL
    rw [h2]; simp [h1]
  · unfold endOf
    rw [if_neg (by rw [hL]; simp), if_pos hD, tw_all_eq h2, List.drop_length, if_neg (fun h => absurd h.1 (by decide))]
theorem whole_real {X Y : List UInt8} (h1 : X ≠ []) (h2 : (X.all fun c => isDi c.toNat) = true) (h3 : Y ≠ []) (h4 : (Y.all fun c => isDi c.toNat) = true) : Whole (X ++ 46 :: Y) 4 := by
  have hD : isDi (hd0 (X ++ 46 :: Y)) = true := by rw [hd0_append _ _ h1]; exact di_head h1 h2
  have hL := di_le _ hD
  refine ⟨by simp, ?_, by decide, ?_⟩
  · unfold kindOf
    rw [not_word hL, not_name hL]
    have e1 : isIntL (X ++ 46 :: Y) = false := by
      unfold isIntL
      rw [List.all_append, List.all_cons]
      simp [show isDi 46 = false by decide]
    have e2 : isRealL (X ++ 46 :: Y) = true := by
      have hf : (X ++ 46 :: Y).findIdx? (· == 46) = some X.length := by
        apply findIdx_at _ _ (by simp)
        · rw [List.take_left, List.any_eq_false]
          intro x hx hc
          have := List.all_eq_true.1 h2 x hx
          simp at hc; subst hc
          exact absurd this (by decide)
        · rw [List.getElem_append_right (by omega)]; simp
      unfold isRealL
      rw [hf]
      show (isIntL ((X ++ 46 :: Y).take X.length) && isIntL ((X ++ 46 :: Y).drop (X.length + 1))) = true
      rw [List.take_left]
      have : (X ++ 46 :: Y).drop (X.length + 1) = Y := by rw [← List.drop_drop, List.drop_left]; rfl
      rw [this]
      unfold isIntL
      rw [h2, h4]; simp [h1, h3]
    rw [e1, e2]; simp
  · have e1 : tw isDi (X ++ 46 :: Y) = X.length := by rw [tw_append, if_pos (tw_all_eq h2), tw_no isDi 46 Y (by decide)]; rfl
    have e2 : (X ++ 46 :: Y).drop X.length = 46 :: Y := List.drop_left
    have e3 : (X ++ 46 :: Y).drop (X.length + 1) = Y := by rw [← List.drop_drop, List.drop_left]; rfl
    unfold endOf
    rw [if_neg (by rw [hL]; simp), if_pos hD, e1, e2, e3, if_pos ⟨rfl, di_head h3 h4⟩, tw_all_eq h4]
    simp; omega
theorem scan_dot {X : List UInt8} (h1 : X ≠ []) (h2 : (X.all fun c => isDi c.toNat) = true) (hl : X.length ≤ 8000) : scan (X ++ [46]) = ([], 3, X.length) := by
  have hD : isDi (hd0 (X ++ [46])) = true := by rw [hd0_append _ _ h1]; exact di_head h1 h2
  have hL := di_le _ hD
  have e1 : tw isDi (X ++ [46]) = X.length := by rw [tw_append, if_pos (tw_all_eq h2), tw_no isDi 46 [] (by decide)]; rfl
  have e3 : (X ++ [46]).drop (X.length + 1) = [] := List.drop_of_length_le (by simp)
  have ht : tokOf (X ++ [46]) = (X.length, 3) := by
    unfold tokOf
    rw [if_neg (by rw [hL]; simp), if_pos hD]
    unfold numOf
    rw [e1, e3, if_neg (fun h => absurd h.2 (by decide))]
  have hb : tw isBl (X ++ [46]) = 0 := by
    cases X with
    | nil => exact absurd rfl h1
    | cons c X =>
      have : isBl (c.toNat : Int) = false := by
        have hD' : isDi (c.toNat : Int) = true := hD
        unfold isDi at hD'; unfold isBl; simp at hD' ⊢; omega
      exact tw_no isBl c _ this
  have hlen : X.length ≠ 0 := fun e => h1 (List.eq_nil_of_length_eq_zero e)
  unfold scan
  rw [if_neg (by simp; omega), hb, List.drop_zero]
  simp only [scanGo]
  rw [if_neg (by simp), ht]
  simp only [List.drop_left]
  rw [if_neg hlen, if_neg (by simp), show tw isBl [46] = 0 by decide]
  have e2 : (X ++ [46]).drop (X.length + 0) = [46] := List.drop_left
  rw [e2]
  have hlen2 : (X ++ [46]).length = X.length + 1 := by simp
  rw [hlen2]
  simp only [scanGo]
  rw [if_neg (by simp), if_pos (by decide)]
  simp

set_option maxHeartbeats 1000000 in
set_option maxRecDepth 100000 in
theorem FlexNumbers_walk (a0 a1 : Int) (w : World) (h0 : (Lit.int .u32 a0).wf = true) (h1 : (Lit.int .u32 a1).wf = true) :
    Calls Try.prog 7 #[.int .u32 a0, .int .u32 a1] w fun e w' => e = .returned (.bool true) ∧ Below w.heap.size w w' := by
  have b0 : 0 ≤ a0 ∧ a0 ≤ 4294967295 := by simp [Lit.wf, IntKind.min, IntKind.max, IntKind.bits, IntKind.signed] at h0; omega
  have b1 : 0 ≤ a1 ∧ a1 ≤ 4294967295 := by simp [Lit.wf, IntKind.min, IntKind.max, IntKind.bits, IntKind.signed] at h1; omega
  obtain ⟨a, rfl⟩ := Int.eq_ofNat_of_zero_le b0.1
  obtain ⟨b, rfl⟩ := Int.eq_ofNat_of_zero_le b1.1
  have ha : a < 4294967296 := by omega
  have hb' : b < 4294967296 := by omega
  obtain ⟨x1, x2, x3⟩ := digs_ok 10 a (by omega)
  obtain ⟨y1, y2, y3⟩ := digs_ok 10 b (by omega)
  have s1 := scan_one (whole_int x2 x3) (by omega)
  have s2 := scan_one (whole_real x2 x3 y2 y3) (by simp; omega)
  have s3 := scan_dot x2 x3 (by omega)
  have D1 : ∀ W, Hid (Calls Try.prog 18 #[.int .i64 a] W fun e w' => e = .returned (strV (digs 10 a)) ∧ Below W.heap.size W w') := fun W => digits_calls 10 a W (by omega) ha (by omega) (by omega)
  have D2 : ∀ W, Hid (Calls Try.prog 18 #[.int .i64 b] W fun e w' => e = .returned (strV (digs 10 b)) ∧ Below W.heap.size W w') := fun W => digits_calls 10 b W (by omega) hb' (by omega) (by omega)
  have HD1 := Lib.hid D1
  have HD2 := Lib.hid D2
  generalize digs 10 a = X at *
  generalize digs 10 b = Y at *
  have S1 := Lib.hid s1
  have S2 := Lib.hid s2
  have S3 := Lib.hid s3
  clear h0 h1 b0 b1 D1 D2 s1 s2 s3 x2 x3 y2 y3
  go_enter Try.func7, Try.ntmps7
  go_wp2_with fail
  refine (HD1.out _).out.mono ?_
  rintro e w1 ⟨rfl, hb⟩
  have Hb := Lib.hid hb
  clear hb
  go_wp2_with fail
  refine (HD2.out _).out.mono ?_
  rintro e w2 ⟨rfl, hb⟩
  replace Hb := Lib.hid (below2 Hb.out hb)
  clear hb
  go_wp2_with fail
  refine (scan_calls _ _ (by rw [size_mk]; unfold maxLen; omega)).mono ?_
  rintro e w3 ⟨v1, rfl, hr1, hb⟩
  have hX : (⟨X.toArray⟩ : ByteArray).data.toList = X := by simp
  rw [hX, S1.out] at hr1
  rw [hX, S1.out]
  have Hr1 := Lib.hid hr1
  replace Hb := Lib.hid (below2 Hb.out hb)
  clear hb hr1 hX
  have he2 : (⟨X.toArray⟩ ++ ⟨#[46]⟩ ++ ⟨Y.toArray⟩ : ByteArray) = ⟨(X ++ 46 :: Y).toArray⟩ := by apply string_ext; simp [ByteArray.data_append]
  have he3 : (⟨X.toArray⟩ ++ ⟨#[46]⟩ : ByteArray) = ⟨(X ++ [46]).toArray⟩ := by apply string_ext; simp [ByteArray.data_append]
  have He2 := Lib.hid he2
  have He3 := Lib.hid he3
  clear he2 he3
  go_wp2_with fail
  have hl2 : (X ++ 46 :: Y).length ≤ 21 := by simp; omega
  rw [He2.out]
  refine (scan_calls _ _ (by rw [size_mk]; unfold maxLen; omega)).mono ?_
  rintro e w4 ⟨v2, rfl, hr2, hb⟩
  have hX : (⟨(X ++ 46 :: Y).toArray⟩ : ByteArray).data.toList = X ++ 46 :: Y := by simp
  rw [hX, S2.out] at hr2
  rw [hX, S2.out]
  have Hr2 := Lib.hid hr2
  replace Hr1 := Lib.hid (Hr1.out.below hb)
  replace Hb := Lib.hid (below2 Hb.out hb)
  clear hb hr2 hX hl2
  go_wp2_with fail
  have hl3 : (X ++ [46]).length ≤ 21 := by simp; omega
  rw [He3.out]
  refine (scan_calls _ _ (by rw [size_mk]; unfold maxLen; omega)).mono ?_
  rintro e w5 ⟨v3, rfl, hr3, hb⟩
  have hX : (⟨(X ++ [46]).toArray⟩ : ByteArray).data.toList = X ++ [46] := by simp
  rw [hX, S3.out] at hr3
  rw [hX, S3.out]
  have Hr3 := Lib.hid hr3
  replace Hr1 := Lib.hid (Hr1.out.below hb)
  replace Hr2 := Lib.hid (Hr2.out.below hb)
  replace Hb := Lib.hid (below2 Hb.out hb)
  clear hb hr3 hX hl3
  go_wp2_with fail
  refine (live_calls _).mono ?_
  rintro e w6 ⟨rfl, hb⟩
  replace Hr1 := Lib.hid (Hr1.out.below hb)
  replace Hr2 := Lib.hid (Hr2.out.below hb)
  replace Hr3 := Lib.hid (Hr3.out.below hb)
  replace Hb := Lib.hid (below2 Hb.out hb)
  clear hb
  obtain ⟨ba, oa, ca, rfl, _, c0, c1, c2⟩ := first_cells Hr1.out (Nat.succ_pos 0)
  obtain ⟨bb, ob, cb, rfl, _, d0, d1, d2⟩ := first_cells Hr2.out (Nat.succ_pos 0)
  obtain ⟨A3, c3, rfl⟩ := Hr3.out.slice
  simp only [List.getElem_cons_zero] at c0 c1 c2 d0 d1 d2
  have hq : (⟨X.toArray⟩ ++ ⟨#[46]⟩ ++ ⟨Y.toArray⟩ : ByteArray).toList = X ++ 46 :: Y := by rw [He2.out, ByteArray.toList_eq]
  have q1 : (X ++ 46 :: Y == (⟨X.toArray⟩ ++ ⟨#[46]⟩ ++ ⟨Y.toArray⟩ : ByteArray).toList) = true := by rw [hq]; exact beq_self_eq_true _
  clear hq
  go_wp2_with fail
  all_goals
    go_ret
    exact ⟨rfl, Hb.out⟩
end Go.Proofs.Ytmdaedeagiamkaa
