/- FlexBack: what the statement's function answers. -/
import Derived.Test.YtmdaedeagiamkaaLawF
set_option linter.unusedVariables false
set_option linter.unusedSimpArgs false
namespace Go.Proofs.Ytmdaedeagiamkaa
open Go.RowKit

theorem join_snoc (xs : List (List UInt8)) (x sep : List UInt8) : Lib.join (xs ++ [x]) sep = if xs = [] then x else Lib.join xs sep ++ sep ++ x := by
  cases xs with
  | nil => simp [Lib.join_one]
  | cons y r =>
    rw [List.cons_append, Lib.join_cons, Lib.join_cons]
    simp [Lib.joinTail]
theorem join_len (xs : List (List UInt8)) (h : ∀ k (hk : k < xs.length), xs[k].length ≤ 8192) : (Lib.join xs [32]).length ≤ xs.length * 8193 := by
  cases xs with
  | nil => simp [Lib.join_nil]
  | cons y r =>
    rw [Lib.join_cons, List.length_append]
    have h0 := h 0 (by simp)
    simp only [List.getElem_cons_zero] at h0
    have hr : ∀ k (hk : k < r.length), r[k].length ≤ 8192 := fun k hk => h (k + 1) (by simpa using hk)
    have : (Lib.joinTail [32] r).length ≤ r.length * 8193 := by
      clear h h0
      induction r with
      | nil => simp [Lib.joinTail]
      | cons z r ih =>
        have hz := hr 0 (by simp)
        simp only [List.getElem_cons_zero] at hz
        have := ih fun k hk => hr (k + 1) (by simpa using hk)
        simp [Lib.joinTail] at this ⊢
        omega
    simp
    omega
theorem join_sep (ts : List Tok) (h : ∀ k (hk : k < ts.length), Whole ts[k].text ts[k].kind) : Sep (Lib.join (ts.map (·.text)) [32]) ts := by
  induction ts with
  | nil => exact Sep.nil
  | cons t ts ih =>
    have ih := ih fun k hk => h (k + 1) (by simpa using hk)
    have h0 := h 0 (by simp)
    simp only [List.getElem_cons_zero] at h0
    cases ts with
    | nil => simp only [List.map_cons, List.map_nil, Lib.join_one]; exact Sep.last t h0
    | cons u r =>
      have e : Lib.join ((t :: u :: r).map (·.text)) [32] = t.text ++ ([32] ++ Lib.join ((u :: r).map (·.text)) [32]) := by
        simp only [List.map_cons, Lib.join_cons]
        simp [Lib.joinTail]
      rw [e]
      exact Sep.cons t [32] _ _ h0 ⟨by simp, by decide⟩ ih

set_option maxRecDepth 100000 in
theorem rjoin_calls (v : Value) (ts : List Tok) (w : World) (hv : RdAt w v ts.length 3 (tokCells ts)) (hn : ts.length ≤ 2048) (hlk : ∀ k (hk : k < ts.length), ts[k].text.length ≤ 8192) :
    Calls Try.prog 20 #[v] w fun e w' => e = .returned (strV (Lib.join (ts.map (·.text)) [32])) ∧ w' = w := by
  obtain ⟨A, c, rfl⟩ := hv.slice
  have Hv := Lib.hid hv
  have Hlk := Lib.hid hlk
  clear hv hlk
  go_enter Try.func20, Try.ntmps20
  go_wp2_with fail
  go_loop [3, 4] (fun t i => ∃ k : Nat, k ≤ ts.length ∧ i = .int .i64 k ∧ t = .string ⟨(Lib.join ((ts.take k).map (·.text)) [32]).toArray⟩) (fun _ i => ts.length - (intOf i).toNat)
  case atStart => exact ⟨0, by omega, rfl, rfl⟩
  case round =>
    obtain ⟨k, hkn, rfl, rfl⟩ := hrel
    by_cases hlt : k < ts.length
    · obtain ⟨b, o, c', hsl, _, hbl, hc⟩ := Hv.out.pos (by omega)
      injection hsl with hA hn' hc'
      subst hA hc'
      have g1 : w.cell? ⟨b, o + k * 3 + 1, none⟩ = some (.string ⟨ts[k].text.toArray⟩) := hc (k * 3 + 1) _ (tokCells_get ts k hlt 1 (by omega))
      have hl1 := join_len ((ts.take k).map (·.text)) (fun j hj => by
        rw [List.getElem_map, List.getElem_take]; exact Hlk.out j _)
      have hl2 := Hlk.out k hlt
      have htk : Lib.join ((ts.take (k + 1)).map (·.text)) [32] = if (ts.take k).map (·.text) = [] then ts[k].text else Lib.join ((ts.take k).map (·.text)) [32] ++ [32] ++ ts[k].text := by
        rw [List.take_succ_eq_append_getElem hlt, List.map_append]
        exact join_snoc _ _ _
      rw [List.length_map, List.length_take] at hl1
      have hl3 : (Lib.join ((ts.take k).map (·.text)) [32]).length ≤ 16779264 := by
        have : min k ts.length * 8193 ≤ 2048 * 8193 := Nat.mul_le_mul_right _ (by omega)
        exact Nat.le_trans hl1 this
      clear hc hl1 hn'
      by_cases h0 : 0 < k
      · have hne : ¬ (ts.take k).map (·.text) = [] := by
          intro h; have := congrArg List.length h; rw [List.length_map, List.length_take, List.length_nil] at this; omega
        rw [if_neg hne] at htk
        have hs : (⟨(Lib.join ((ts.take k).map (·.text)) [32]).toArray⟩ ++ ⟨#[32]⟩ ++ ⟨ts[k].text.toArray⟩ : ByteArray) = ⟨(Lib.join ((ts.take (k + 1)).map (·.text)) [32]).toArray⟩ := by
          rw [htk]; apply string_ext; simp [ByteArray.data_append]
        have Hs := Lib.hid hs
        have d1 : decide ((0 : Int) < (k : Int)) = true := by simp; omega
        clear hs htk hne
        generalize Lib.join ((ts.take k).map (·.text)) [32] = G at *
        generalize ts[k].text = u at *
        go_wp2_with fail
        go_round
        case rel => exact ⟨k + 1, by omega, by go_num, by rw [Hs.out]⟩
        case measure => simp [intOf]; omega
      · obtain rfl : k = 0 := by omega
        simp only [List.take_zero, List.map_nil, if_true] at htk
        have hs : (⟨(Lib.join ([] : List (List UInt8)) [32]).toArray⟩ ++ ⟨ts[0].text.toArray⟩ : ByteArray) = ⟨(Lib.join ((ts.take (0 + 1)).map (·.text)) [32]).toArray⟩ := by
          rw [htk]; apply string_ext; simp [ByteArray.data_append, Lib.join_nil]
        have Hs := Lib.hid hs
        have hj0 : (Lib.join ([] : List (List UInt8)) [32]).length ≤ 0 := Nat.le_refl _
        simp only [Nat.zero_mul, Nat.add_zero] at g1
        clear htk hl3 hs
        generalize ts[0].text = u at *
        go_wp2_with fail
        exact ⟨⟨1, by omega, by go_num, by rw [← Hs.out]⟩, by simp [intOf]; omega⟩
    · obtain rfl : k = ts.length := by omega
      rw [List.take_length]
      go_wp2_with fail
      go_ret
      exact ⟨rfl, rfl⟩

set_option maxHeartbeats 1000000 in
set_option maxRecDepth 100000 in
theorem FlexBack_walk (a0 : ByteArray) (w : World) (h0 : a0.size ≤ 140737488351232) :
    Calls Try.prog 9 #[.string a0] w fun e w' => e = .returned (.bool true) ∧ Below w.heap.size w w' := by
  have H0 := Lib.hid (maxLen_of h0)
  have Hl := Lib.hid (size_list a0)
  go_enter Try.func9, Try.ntmps9
  go_wp2_with fail
  refine (scan_calls _ _ H0.out).mono ?_
  rintro e w1 ⟨v1, rfl, hr1, hb1⟩
  have Hr := Lib.hid hr1
  have Hb := Lib.hid hb1
  have hg := scan_good a0.data.toList
  have hcn := scan_count a0.data.toList
  have hsl := scan_len a0.data.toList
  have hen := (scan_ends a0.data.toList).2
  clear hr1 hb1
  generalize scan a0.data.toList = R at *
  obtain ⟨ts, e, p⟩ := R
  by_cases he : e = 0
  · subst he
    obtain ⟨p', hg⟩ := hg rfl
    have hg : Good a0.data.toList p' ts := hg
    have Hg := Lib.hid hg
    have hcn : ts.length ≤ 2048 := hcn
    have hsl : a0.size ≤ 8192 := by have := hsl rfl; rw [Hl.out] at this; exact this
    have hw : ∀ k (hk : k < ts.length), Whole ts[k].text ts[k].kind := fun k hk => (Hg.out.1 k hk).1
    have hlk : ∀ k (hk : k < ts.length), ts[k].text.length ≤ 8192 := fun k hk => by
      have h1 := (Hg.out.1 k hk).2.1
      have h2 := Hg.out.2.2
      rw [Hl.out] at h2
      omega
    have hjl : (Lib.join (ts.map (·.text)) [32]).length ≤ 16779264 := by
      have h1 := join_len (ts.map (·.text)) (fun j hj => by rw [List.getElem_map]; exact hlk j _)
      rw [List.length_map] at h1
      have : ts.length * 8193 ≤ 2048 * 8193 := Nat.mul_le_mul_right _ hcn
      exact Nat.le_trans h1 this
    have hsep := join_sep ts hw
    have Hlk := Lib.hid hlk
    have Hsep := Lib.hid hsep
    have Hjc := Lib.hid (fun W v (hv : RdAt W v ts.length 3 (tokCells ts)) => join_calls v ts W hv hcn (Nat.le_trans hjl (by omega)))
    have Hrj := Lib.hid (fun W v (hv : RdAt W v ts.length 3 (tokCells ts)) => rjoin_calls v ts W hv hcn Hlk.out)
    clear hg hw hlk hsep hen
    go_wp2_with fail
    refine (Hjc.out _ _ Hr.out).mono ?_
    rintro e' w2 ⟨rfl, hb⟩
    replace Hr := Lib.hid (Hr.out.below hb)
    replace Hb := Lib.hid (below2 Hb.out hb)
    clear hb
    generalize Lib.join (ts.map (·.text)) [32] = G at *
    go_wp2_with fail
    refine (scan_calls _ _ (by rw [size_mk]; unfold maxLen; omega)).mono ?_
    rintro e w3 ⟨v2, rfl, hr2, hb⟩
    have hX : (⟨G.toArray⟩ : ByteArray).data.toList = G := by simp
    rw [hX] at hr2 ⊢
    replace Hr := Lib.hid (Hr.out.below hb)
    replace Hb := Lib.hid (below2 Hb.out hb)
    have Hr2 := Lib.hid hr2
    clear hr2 hb hX
    by_cases hbig : 8192 < G.length
    · have d1 : decide ((8192 : Int) < (G.length : Int)) = true := by simp; omega
      have hsc : scan G = ([], 5, 0) := by unfold scan; rw [if_pos hbig]
      rw [hsc] at Hr2 ⊢
      clear hsc
      go_wp2_with fail
      refine (live_calls _).mono ?_
      rintro e' w5 ⟨rfl, hb⟩
      replace Hr := Lib.hid (Hr.out.below hb)
      replace Hb := Lib.hid (below2 Hb.out hb)
      clear hb
      go_wp2_with fail
      refine (Hrj.out _ _ Hr.out).mono ?_
      rintro e' w6 ⟨rfl, rfl⟩
      go_wp2_with fail
      go_ret
      exact ⟨rfl, Hb.out⟩
    · have d1 : decide ((8192 : Int) < (G.length : Int)) = false := by simp; omega
      obtain ⟨z1, z2, z3⟩ := scan_sep [] G ts rfl Hsep.out (by simpa using hbig) hcn
      rw [List.nil_append] at z1
      have z2 : (scan G).1.length = ts.length := z2
      have z3 : ∀ k (h1 : k < (scan G).1.length) (h2 : k < ts.length), (scan G).1[k].kind = ts[k].kind ∧ (scan G).1[k].text = ts[k].text := z3
      generalize hR2 : scan G = R2 at *
      obtain ⟨ts2, e2, p2⟩ := R2
      injection z1 with z4 z5
      have hsame : SameT false ts ts2 := ⟨z2.symm, fun k ha hb => ⟨((z3 k hb ha).1).symm, ((z3 k hb ha).2).symm, fun h => by cases h⟩⟩
      have Hsame := Lib.hid hsame
      subst z4 z5
      clear z2 z3 hsame hR2
      go_wp2_with fail
      refine (live_calls _).mono ?_
      rintro e' w5 ⟨rfl, hb⟩
      replace Hr := Lib.hid (Hr.out.below hb)
      replace Hr2 := Lib.hid (Hr2.out.below hb)
      replace Hb := Lib.hid (below2 Hb.out hb)
      clear hb
      go_wp2_with fail
      refine (Hrj.out _ _ Hr.out).mono ?_
      rintro e' w6 ⟨rfl, rfl⟩
      go_wp2_with fail
      refine (same_calls _ _ _ _ _ _ Hr.out Hr2.out Hsame.out).mono ?_
      rintro e' w7 ⟨rfl, hb⟩
      replace Hb := Lib.hid (below2 Hb.out hb)
      clear hb
      go_wp2_with fail
      go_ret
      exact ⟨rfl, Hb.out⟩
  · have q1 : (e != 0) = true := by simpa using he
    obtain rfl : ts = [] := hen he
    clear he
    obtain ⟨A, c, rfl⟩ := Hr.out.slice
    go_wp2_with fail
    refine (live_calls _).mono ?_
    rintro e' w5 ⟨rfl, hb⟩
    replace Hb := Lib.hid (below2 Hb.out hb)
    clear hb
    go_wp2_with fail
    go_ret
    exact ⟨rfl, Hb.out⟩
end Go.Proofs.Ytmdaedeagiamkaa
