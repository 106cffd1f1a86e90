/- Plain: a text up to its last token is scanned as its tokens but that. Plain: without its last token no text is a program. Plain: without its last token no text is a program: statements, declarations, all of it. -/
import Derived.Test.YtokdcfehnhifhaaGreatDoorJoin
import Derived.Test.YtokdcfehnhifhaaGreatDoorEnd
namespace Go.Proofs.YtokdcfehnhifhaaGreatDoor
/-! Plain: a text up to its last token is scanned as its tokens but that. -/
section
set_option linter.unusedVariables false
set_option linter.unusedSimpArgs false

theorem pre_take {l : List UInt8} {n : Nat} (p : List UInt8) (h : p.length ≤ n) : Lib.hasPrefix (l.take n) p = Lib.hasPrefix l p := by
  unfold Lib.hasPrefix
  rw [Bool.eq_iff_iff, List.isPrefixOf_iff_prefix, List.isPrefixOf_iff_prefix]
  constructor
  · intro h1; exact h1.trans (List.take_prefix _ _)
  · rintro ⟨r, rfl⟩
    rw [List.take_append, List.take_of_length_le h]
    exact List.prefix_append _ _
theorem hd0_take' {l : List UInt8} {n : Nat} (h : 1 ≤ n) : hd0 (l.take n) = hd0 l := hd0_take h
theorem num_take {l : List UInt8} {n : Nat} (h : (numOf l).1 ≤ n) : numOf (l.take n) = numOf l := by
  unfold numOf at h ⊢
  by_cases hc : Lib.hasPrefix (l.drop (tw isDi l)) [46] = true ∧ 0 < tw isDi (l.drop (tw isDi l + 1))
  · rw [if_pos hc] at h ⊢
    simp only at h
    have e1 : tw isDi (l.take n) = tw isDi l := tw_take isDi l n (by omega)
    have e2 : (l.take n).drop (tw isDi l) = (l.drop (tw isDi l)).take (n - tw isDi l) := drop_take_tw _ _ _
    have e3 : (l.take n).drop (tw isDi l + 1) = (l.drop (tw isDi l + 1)).take (n - (tw isDi l + 1)) := drop_take_tw _ _ _
    have e4 : tw isDi ((l.drop (tw isDi l + 1)).take (n - (tw isDi l + 1))) = tw isDi (l.drop (tw isDi l + 1)) := tw_take isDi _ _ (by omega)
    rw [e1, e2, e3, e4, pre_take [46] (by simp; omega), if_pos hc]
  · rw [if_neg hc] at h ⊢
    simp only at h
    have e1 : tw isDi (l.take n) = tw isDi l := tw_take isDi l n (by omega)
    have e2 : (l.take n).drop (tw isDi l) = (l.drop (tw isDi l)).take (n - tw isDi l) := drop_take_tw _ _ _
    have e3 : (l.take n).drop (tw isDi l + 1) = (l.drop (tw isDi l + 1)).take (n - (tw isDi l + 1)) := drop_take_tw _ _ _
    rw [e1, e2, e3, if_neg]
    rintro ⟨h1, h2⟩
    refine hc ⟨?_, ?_⟩
    · unfold Lib.hasPrefix at h1 ⊢
      rw [List.isPrefixOf_iff_prefix] at h1 ⊢
      exact h1.trans (List.take_prefix _ _)
    · have hp : ∀ (m : Nat) (x : List UInt8), 0 < tw isDi (x.take m) → 0 < tw isDi x := by
        intro m x hx
        cases m with
        | zero => simp [tw] at hx
        | succ m =>
          cases x with
          | nil => simp [tw] at hx
          | cons c x =>
            rw [List.take_succ_cons] at hx
            cases hcx : isDi c.toNat with
            | true => rw [tw_yes isDi c _ hcx]; omega
            | false => rw [tw_no isDi c _ hcx] at hx; omega
      exact hp _ _ h2
theorem sign_take {l : List UInt8} {n : Nat} (h : signOf l ≤ n) (h0 : 0 < signOf l) : signOf (l.take n) = signOf l := by
  unfold signOf at h h0 ⊢
  have hp2 : (twosL.all fun p => decide (p.length = 2)) = true := by decide +kernel
  by_cases h1 : twosL.any (Lib.hasPrefix l) = true
  · rw [if_pos h1] at h ⊢
    have : twosL.any (Lib.hasPrefix (l.take n)) = true := by
      rw [List.any_eq_true] at h1 ⊢
      obtain ⟨p, hp, hx⟩ := h1
      have := List.all_eq_true.1 hp2 p hp
      exact ⟨p, hp, by rw [pre_take p (by simp at this; omega)]; exact hx⟩
    rw [if_pos this]
  · rw [if_neg h1] at h h0 ⊢
    have hn : ¬ twosL.any (Lib.hasPrefix (l.take n)) = true := by
      intro h2
      rw [List.any_eq_true] at h2
      obtain ⟨p, hp, hx⟩ := h2
      refine h1 (List.any_eq_true.2 ⟨p, hp, ?_⟩)
      unfold Lib.hasPrefix at hx ⊢
      rw [List.isPrefixOf_iff_prefix] at hx ⊢
      exact hx.trans (List.take_prefix _ _)
    rw [if_neg hn]
    split at h
    · rename_i hc
      have hh : (l.take n).head? = l.head? := by
        cases l with
        | nil => simp
        | cons c l =>
          obtain ⟨m, rfl⟩ : ∃ m, n = m + 1 := ⟨n - 1, by omega⟩
          rfl
      rw [hh]
    · rename_i hc
      rw [if_neg hc] at h0
      omega
/-- A token does not hang on what stands behind it. -/
theorem tok_take {l : List UInt8} {n : Nat} (h0 : (tokOf l).1 ≠ 0) (h : (tokOf l).1 ≤ n) : tokOf (l.take n) = tokOf l := by
  have hn : 1 ≤ n := by omega
  unfold tokOf at h h0 ⊢
  rw [hd0_take' hn]
  by_cases hL : isLe (hd0 l) = true
  · rw [if_pos hL] at h h0 ⊢
    have hw : tw inNm l ≤ n := by
      split at h
      · exact h
      · split at h
        · rename_i h1 h2; rw [if_neg h1, if_pos h2] at h0; exact absurd rfl h0
        · exact h
    rw [tw_take inNm l n hw, List.take_take, Nat.min_eq_left hw, if_pos hL]
  · rw [if_neg hL] at h h0 ⊢
    rw [if_neg hL]
    by_cases hD : isDi (hd0 l) = true
    · rw [if_pos hD] at h ⊢
      rw [if_pos hD]
      exact num_take h
    · rw [if_neg hD] at h h0 ⊢
      rw [if_neg hD]
      by_cases hs : 0 < signOf l
      · rw [if_pos hs] at h
        rw [sign_take h hs]
      · rw [if_neg hs] at h0
        exact absurd rfl h0
/-- The scanner up to the last token. -/
theorem go_cut : ∀ (f : Nat) (l : List UInt8) (p : Nat) (ts ts' : List Tok) (t : Tok), l.length < f → l ≠ [] → scanGo f l p ts = (ts' ++ [t], 0, 0) →
    p ≤ t.at_ ∧ t.at_ - p ≤ l.length ∧ ∀ F, l.length < F → scanGo F (l.take (t.at_ - p)) p ts = (ts', 0, 0)
  | 0, l, p, ts, ts', t, h, _, _ => by omega
  | f + 1, l, p, ts, ts', t, hf, hl, hs => by
    have htl := tokOf_le l
    have hpos := List.length_pos_iff.2 hl
    simp only [scanGo, if_neg hl] at hs
    by_cases h0 : (tokOf l).1 = 0
    · rw [if_pos h0] at hs; simp at hs
    · rw [if_neg h0] at hs
      by_cases h2 : ts.length = 2048
      · rw [if_pos h2] at hs; simp at hs
      · rw [if_neg h2] at hs
        by_cases hd : l.drop ((tokOf l).1 + tw isBl (l.drop (tokOf l).1)) = []
        · rw [hd] at hs
          have hts : ts ++ [⟨(tokOf l).2, l.take (tokOf l).1, p⟩] = ts' ++ [t] := by
            cases f with
            | zero => omega
            | succ f => simp only [scanGo, if_pos] at hs; injection hs
          obtain ⟨e1, e2⟩ := List.append_inj' hts rfl
          injection e2 with e2 _
          subst e1
          rw [← e2]
          refine ⟨Nat.le_refl _, by simp, fun F hF => ?_⟩
          obtain ⟨F, rfl⟩ : ∃ G, F = G + 1 := ⟨F - 1, by omega⟩
          simp [scanGo]
        · have hlt := tw_le isBl (l.drop (tokOf l).1)
          rw [List.length_drop] at hlt
          have hdl : (l.drop ((tokOf l).1 + tw isBl (l.drop (tokOf l).1))).length = l.length - ((tokOf l).1 + tw isBl (l.drop (tokOf l).1)) := List.length_drop
          obtain ⟨k1, k2, k3⟩ := go_cut f _ _ _ ts' t (by omega) hd hs
          refine ⟨by omega, by omega, fun F hF => ?_⟩
          obtain ⟨F, rfl⟩ : ∃ G, F = G + 1 := ⟨F - 1, by omega⟩
          have hm : (tokOf l).1 + tw isBl (l.drop (tokOf l).1) ≤ t.at_ - p := by omega
          have hne : l.take (t.at_ - p) ≠ [] := by
            intro h
            have := congrArg List.length h
            rw [List.length_take, List.length_nil] at this
            omega
          have e1 := tok_take h0 (show (tokOf l).1 ≤ t.at_ - p by omega)
          have e2 : (l.take (t.at_ - p)).drop (tokOf l).1 = (l.drop (tokOf l).1).take (t.at_ - p - (tokOf l).1) := drop_take_tw _ _ _
          have e3 : tw isBl ((l.drop (tokOf l).1).take (t.at_ - p - (tokOf l).1)) = tw isBl (l.drop (tokOf l).1) := tw_take isBl _ _ (by omega)
          have e4 : (l.take (t.at_ - p)).drop ((tokOf l).1 + tw isBl (l.drop (tokOf l).1)) = (l.drop ((tokOf l).1 + tw isBl (l.drop (tokOf l).1))).take (t.at_ - (p + (tokOf l).1 + tw isBl (l.drop (tokOf l).1))) := by
            rw [drop_take_tw]; congr 1; omega
          have e5 : (l.take (t.at_ - p)).take (tokOf l).1 = l.take (tokOf l).1 := by rw [List.take_take, Nat.min_eq_left (by omega)]
          simp only [scanGo]
          rw [if_neg hne, e1, if_neg h0, if_neg h2, e2, e3, e4, e5]
          exact k3 F (by omega)
/-- A text up to its last token. -/
theorem scan_cut (l : List UInt8) (u : List Tok) (t : Tok) (h : scan l = (u ++ [t], 0, 0)) : t.at_ ≤ l.length ∧ scan (l.take t.at_) = (u, 0, 0) := by
  unfold scan at h
  by_cases hlen : 8192 < l.length
  · rw [if_pos hlen] at h; simp at h
  · rw [if_neg hlen] at h
    have hne : l.drop (tw isBl l) ≠ [] := by
      intro e
      rw [e] at h
      simp [scanGo] at h
    have hle := tw_le isBl l
    have hdl : (l.drop (tw isBl l)).length = l.length - tw isBl l := List.length_drop
    obtain ⟨k1, k2, k3⟩ := go_cut _ _ _ _ _ _ (by omega) hne h
    refine ⟨by omega, ?_⟩
    unfold scan
    have hl2 : (l.take t.at_).length = t.at_ := by rw [List.length_take]; omega
    rw [if_neg (by omega), tw_take isBl l _ k1, drop_take_tw]
    rw [hl2]
    have := k3 (l.length + 1) (by omega)
    rw [← this]
    have hd2 : ((l.drop (tw isBl l)).take (t.at_ - tw isBl l)).length = t.at_ - tw isBl l := by rw [List.length_take]; omega
    exact go_fuel _ _ _ _ _ (by omega) (by omega)
end

/-! Plain: without its last token no text is a program. -/
section
set_option linter.unusedVariables false
set_option linter.unusedSimpArgs false
open Go.RowKit

def cut (s : PS) : PS := { s with toks := s.toks.dropLast }
def End0 {α : Type} (r : Option (Res α)) : Prop := r = none ∨ r = some (.bad 0) ∨ ∃ b s, r = some (.ok b s) ∧ s.toks = []
def End1 {α : Type} (r : Option (Res α)) : Prop := r = none ∨ r = some (.bad 0)
theorem End1.weak {α : Type} {r : Option (Res α)} (h : End1 r) : End0 r := by rcases h with h | h; exact Or.inl h; exact Or.inr (Or.inl h)
def KX (E : ∀ {α : Type}, Option (Res α) → Prop) {α : Type} (m : P α) : Prop := ∀ s a s', s.toks ≠ [] → m s = some (.ok a s') → (s'.toks ≠ [] → m (cut s) = some (.ok a (cut s'))) ∧ (s'.toks = [] → E (m (cut s)))
/-- What goes on alike without the last token; where that was used it ends. -/
def KW {α : Type} (m : P α) : Prop := KX (@End0) m
/-- .. where that was used it gives up. -/
def KS {α : Type} (m : P α) : Prop := KX (@End1) m
section
variable {α β : Type}
theorem KS.weak {m : P α} (h : KS m) : KW m := fun s a s' h0 e => ⟨(h s a s' h0 e).1, fun h1 => ((h s a s' h0 e).2 h1).weak⟩
theorem end_weak {m : P α} (hb : PB m) (hl : PLe m) {s : PS} (h : s.toks = []) : End0 (m s) := by
  cases e : m s with
  | none => exact Or.inl rfl
  | some r =>
    cases r with
    | bad n =>
      have := hb _ _ e
      rw [h] at this
      obtain rfl : n = 0 := by simpa using this
      exact Or.inr (Or.inl rfl)
    | ok b s2 =>
      have := hl _ _ _ e
      rw [h] at this
      exact Or.inr (Or.inr ⟨b, s2, rfl, List.eq_nil_of_length_eq_zero (by simpa using this)⟩)
theorem end_strong {m : P α} (hb : PB m) (hl : PLt m) {s : PS} (h : s.toks = []) : End1 (m s) := by
  rcases end_weak hb hl.le h with e | e | ⟨b, s2, e, _⟩
  · exact Or.inl e
  · exact Or.inr e
  · have := hl _ _ _ e
    rw [h] at this
    simp at this
theorem nil_le {m : P α} (hl : PLe m) {s s' : PS} {a : α} (h : s.toks = []) (e : m s = some (.ok a s')) : s'.toks = [] := by
  have := hl _ _ _ e
  rw [h] at this
  exact List.eq_nil_of_length_eq_zero (by simpa using this)
theorem kw_bind {x : P α} {f : α → P β} (hx : KW x) (hf : ∀ a, KW (f a)) (hb : ∀ a, PB (f a)) (hl : ∀ a, PLe (f a)) : KW (x.bind f) := by
  intro s b s' h0 e
  obtain ⟨q, hq, ⟨n, rfl, hr⟩ | ⟨a, s1, rfl, hr⟩⟩ := P.bind_some e
  · cases hr
  · obtain ⟨k1, k2⟩ := hx _ _ _ h0 hq
    by_cases h1 : s1.toks = []
    · refine ⟨fun h => absurd (nil_le (hl a) h1 hr) h, fun _ => ?_⟩
      unfold P.bind
      rcases k2 h1 with e | e | ⟨c, s2, e, h2⟩
      · rw [e]; exact Or.inl rfl
      · rw [e]; exact Or.inr (Or.inl rfl)
      · rw [e]; exact end_weak (hb c) (hl c) h2
    · obtain ⟨k3, k4⟩ := hf a _ _ _ h1 hr
      unfold P.bind
      rw [k1 h1]
      exact ⟨k3, k4⟩
theorem ks_bindw {x : P α} {f : α → P β} (hx : KW x) (hf : ∀ a, KS (f a)) (hb : ∀ a, PB (f a)) (hl : ∀ a, PLt (f a)) : KS (x.bind f) := by
  intro s b s' h0 e
  obtain ⟨q, hq, ⟨n, rfl, hr⟩ | ⟨a, s1, rfl, hr⟩⟩ := P.bind_some e
  · cases hr
  · obtain ⟨k1, k2⟩ := hx _ _ _ h0 hq
    by_cases h1 : s1.toks = []
    · refine ⟨fun h => absurd (nil_le (hl a).le h1 hr) h, fun _ => ?_⟩
      unfold P.bind
      rcases k2 h1 with e | e | ⟨c, s2, e, h2⟩
      · rw [e]; exact Or.inl rfl
      · rw [e]; exact Or.inr rfl
      · rw [e]; exact end_strong (hb c) (hl c) h2
    · obtain ⟨k3, k4⟩ := hf a _ _ _ h1 hr
      unfold P.bind
      rw [k1 h1]
      exact ⟨k3, k4⟩
theorem ks_bind {x : P α} {f : α → P β} (hx : KS x) (hf : ∀ a, KS (f a)) (hl : ∀ a, PLe (f a)) : KS (x.bind f) := by
  intro s b s' h0 e
  obtain ⟨q, hq, ⟨n, rfl, hr⟩ | ⟨a, s1, rfl, hr⟩⟩ := P.bind_some e
  · cases hr
  · obtain ⟨k1, k2⟩ := hx _ _ _ h0 hq
    by_cases h1 : s1.toks = []
    · refine ⟨fun h => absurd (nil_le (hl a) h1 hr) h, fun _ => ?_⟩
      unfold P.bind
      rcases k2 h1 with e | e
      · rw [e]; exact Or.inl rfl
      · rw [e]; exact Or.inr rfl
    · obtain ⟨k3, k4⟩ := hf a _ _ _ h1 hr
      unfold P.bind
      rw [k1 h1]
      exact ⟨k3, k4⟩
theorem ks_ret (a : α) : KS (P.ret a) := by
  intro s b s' h0 e
  injection e with e; injection e with e1 e; subst e1 e
  exact ⟨fun _ => rfl, fun h => absurd h h0⟩
theorem ks_fail : KS (P.fail : P α) := by intro s b s' h0 e; injection e with e; cases e
theorem ks_none : KS (fun _ => none : P α) := by intro s b s' h0 e; cases e
theorem cut_hd {s : PS} (h : (cut s).toks ≠ []) : hd (cut s) = hd s := by
  unfold hd cut at *
  simp only at h ⊢
  match hs : s.toks with
  | [] => rfl
  | [a] => rw [hs] at h; simp at h
  | a :: b :: r => rfl
theorem cut_isOf {s : PS} (h : (cut s).toks ≠ []) (ts : List (List UInt8)) : isOf ts (cut s) = isOf ts s := by unfold isOf; rw [cut_hd h]
theorem cut_drop (s : PS) : drop1 (cut s) = cut (drop1 s) := by
  unfold drop1 cut
  match hs : s.toks with
  | [] => rfl
  | [a] => rfl
  | a :: b :: r => rfl
theorem cut_nil {s : PS} (h : s.toks ≠ []) : (cut s).toks = [] ↔ (drop1 s).toks = [] := by
  unfold cut drop1
  match hs : s.toks with
  | [] => exact absurd hs h
  | [a] => simp
  | a :: b :: r => simp
theorem kw_pass : KW pPass := by
  intro s a s' h0 e
  injection e with e; injection e with e1 e; subst e1 e
  refine ⟨fun h => ?_, fun h => ?_⟩
  · unfold pPass
    rw [cut_hd (fun e => h ((cut_nil h0).1 e)), cut_drop]
  · unfold pPass
    refine Or.inr (Or.inr ⟨_, _, rfl, ?_⟩)
    rw [cut_drop]
    unfold cut
    rw [h]; rfl
/-- One token that is of a kind: without it it gives up. -/
theorem ks_one {m : P α} (hl : PLt m) (hb : PB m) (h : ∀ s a s', s.toks ≠ [] → (cut s).toks ≠ [] → m s = some (.ok a s') → (s'.toks ≠ [] → m (cut s) = some (.ok a (cut s'))) ∧ (s'.toks = [] → End1 (m (cut s)))) : KS m := by
  intro s a s' h0 e
  by_cases h1 : (cut s).toks = []
  · have hl2 := hl _ _ _ e
    have : s.toks.length = 1 := by
      have := congrArg List.length h1
      unfold cut at this
      rw [List.length_dropLast, List.length_nil] at this
      have := List.length_pos_iff.2 h0
      omega
    have h2 : s'.toks = [] := List.eq_nil_of_length_eq_zero (by omega)
    exact ⟨fun h => absurd h2 h, fun _ => end_strong hb hl h1⟩
  · exact h s a s' h0 h1 e
theorem ks_take {ks : List Int} (h0 : ks.contains 0 = false) : KS (pTake ks) := by
  refine ks_one (plt_take ks h0) (pb_take ks) fun s a s' h1 h2 e => ?_
  unfold pTake at e ⊢
  rw [cut_hd h2]
  split at e
  · rename_i hc
    rw [if_pos hc]
    injection e with e; injection e with e1 e; subst e1 e
    refine ⟨fun h => ?_, fun h => absurd ((cut_nil h1).2 h) h2⟩
    unfold pPass
    rw [cut_hd h2, cut_drop]
  · injection e with e; cases e
theorem kx_if {E : ∀ {α : Type}, Option (Res α) → Prop} {t : List UInt8} {x y : P β} (hx : KX E x) (hy : KX E y) (hl : PLe x) (he : ∀ s a s', s.toks = [] → x s = some (.ok a s') → ∀ s2, s2.toks = [] → E (y s2)) :
    KX E ((pEat t).bind fun b => if b = true then x else y) := by
  intro s a s' h0 e
  have heq : ∀ s2, ((pEat t).bind fun b => if b = true then x else y) s2 = if isOf [t] s2 = true then x (drop1 s2) else y s2 := by
    intro s2
    unfold P.bind pEat
    cases isOf [t] s2 <;> simp
  rw [heq] at e ⊢
  by_cases h1 : (cut s).toks = []
  · rw [isOf_nil h1, if_neg (by simp)]
    by_cases hi : isOf [t] s = true
    · rw [if_pos hi] at e
      have hd := (cut_nil h0).1 h1
      have h2 := nil_le hl hd e
      exact ⟨fun h => absurd h2 h, fun _ => he _ _ _ hd e _ h1⟩
    · rw [if_neg hi] at e
      exact hy _ _ _ h0 e
  · rw [cut_isOf h1]
    by_cases hi : isOf [t] s = true
    · rw [if_pos hi] at e ⊢
      rw [cut_drop]
      exact hx _ _ _ (fun h => h1 ((cut_nil h0).2 h)) e
    · rw [if_neg hi] at e ⊢
      exact hy _ _ _ h0 e
theorem kw_if {t : List UInt8} {x y : P β} (hx : KW x) (hy : KW y) (hl : PLe x) (hb : PB y) (hl2 : PLe y) : KW ((pEat t).bind fun b => if b = true then x else y) :=
  kx_if hx hy hl fun _ _ _ _ _ s2 h2 => end_weak hb hl2 h2
theorem ks_if {t : List UInt8} {x y : P β} (hx : KS x) (hy : KS y) (hl : PLe x) (hb : PB y) (hl2 : PLt y) : KS ((pEat t).bind fun b => if b = true then x else y) :=
  kx_if hx hy hl fun _ _ _ _ _ s2 h2 => end_strong hb hl2 h2
theorem ks_if2 {t : List UInt8} {x y : P β} (hx : KS x) (hy : KS y) (hl : PLt x) : KS ((pEat t).bind fun b => if b = true then x else y) :=
  kx_if hx hy hl.le fun s a s' h e s2 h2 => by
    have := hl _ _ _ e
    rw [h] at this
    simp at this
theorem ks_must : ∀ l, KS (pMust l)
  | [] => ks_ret ()
  | t :: r => ks_if (ks_must r) ks_fail (ple_must r) pb_fail plt_fail
theorem ks_in : KS pIn := by
  intro s b s' h0 e
  injection e with e; injection e with e1 e; subst e1 e
  exact ⟨fun _ => rfl, fun h => absurd h h0⟩
theorem ks_out : KS pOut := by
  intro s b s' h0 e
  injection e with e; injection e with e1 e; subst e1 e
  exact ⟨fun _ => rfl, fun h => absurd h h0⟩
theorem ks_odd (t : List UInt8) : KS (pOdd t) := by
  intro s b s' h0 e
  injection e with e; injection e with e1 e; subst e1 e
  exact ⟨fun _ => rfl, fun h => absurd h h0⟩
theorem kw_cast {x : P Ex} (hx : KW x) (hb : PB x) (hl : PLe x) : KW (pCastW x) := by
  have hk : KW (pPass.bind fun t => x.bind fun e => P.ret (Ex.mk 7 [] (typeOf t) [e])) := kw_bind kw_pass (fun t => kw_bind hx (fun e => (ks_ret _).weak) (fun e => pb_ret _) (fun e => ple_ret _)) (fun t => pb_bind hb hl fun e => pb_ret _) (fun t => ple_bind hl fun e => ple_ret _)
  intro s a s' h0 e
  by_cases h1 : (cut s).toks = []
  · have hlt := plt_cast hl _ _ _ e
    have : s.toks.length = 1 := by
      have := congrArg List.length h1
      unfold cut at this
      rw [List.length_dropLast, List.length_nil] at this
      have := List.length_pos_iff.2 h0
      omega
    exact ⟨fun h => absurd (List.eq_nil_of_length_eq_zero (by omega)) h, fun _ => end_weak (pb_cast hb hl) (plt_cast hl).le h1⟩
  · unfold pCastW at e ⊢
    rw [cut_isOf h1]
    split at e
    · rename_i hc; rw [if_pos hc]; exact hk _ _ _ h0 e
    · injection e with e; cases e
end
theorem cuts (f : Nat) : (∀ l, KW (pExpr f l)) ∧ (∀ l e, KW (pRest f l e)) ∧ KW (pUnary f) ∧ KW (pPrimary f) ∧ KW (pWithin f) := by
  induction f with
  | zero =>
    refine ⟨fun l => ?_, fun l e => ?_, ?_, ?_, ?_⟩
    · unfold pExpr; exact ks_none.weak
    · unfold pRest; exact ks_none.weak
    · unfold pUnary; exact ks_none.weak
    · unfold pPrimary; exact ks_none.weak
    · unfold pWithin; exact ks_none.weak
  | succ f ih =>
    obtain ⟨h1, h2, h3, h4, h5⟩ := ih
    obtain ⟨l1, l2, l3, l4, l5⟩ := lens f
    obtain ⟨b1, b2, b3, b4, b5⟩ := bads f
    have kr : ∀ {α : Type} (a : α), KW (P.ret a) := fun a => (ks_ret a).weak
    refine ⟨fun l => ?_, fun l e => ?_, ?_, ?_, ?_⟩
    · rw [pExpr]
      split
      · exact h3
      · exact kw_bind (h1 _) (fun e => h2 _ _) (fun e => b2 _ _) (fun e => l2 _ _)
    · intro s a s' h0 he
      have hle := l2
      rw [pRest] at he ⊢
      simp only at he ⊢
      by_cases hc0 : (cut s).toks = []
      · rw [isOf_nil hc0, if_neg (by simp)]
        split at he
        · have h6 : s'.toks = [] := by
            obtain ⟨q, hq, ⟨n, rfl, hr⟩ | ⟨t, s1, rfl, hr⟩⟩ := P.bind_some he
            · cases hr
            · injection hq with hq; injection hq with _ hq; subst hq
              exact nil_le (ple_bind (l1 _).le fun e2 => l2 _ _) ((cut_nil h0).1 hc0) hr
          exact ⟨fun h => absurd h6 h, fun _ => Or.inr (Or.inr ⟨_, _, rfl, hc0⟩)⟩
        · injection he with he; injection he with e1 he; subst e1 he
          exact ⟨fun _ => rfl, fun h => absurd h h0⟩
      · rw [cut_isOf hc0]
        split at he
        · rename_i hc; rw [if_pos hc]
          exact kw_bind kw_pass (fun t => kw_bind (h1 _) (fun e2 => h2 _ _) (fun e2 => b2 _ _) (fun e2 => l2 _ _)) (fun t => pb_bind (b1 _) (l1 _).le fun e2 => b2 _ _) (fun t => ple_bind (l1 _).le fun e2 => l2 _ _) _ _ _ h0 he
        · rename_i hc; rw [if_neg hc]
          injection he with he; injection he with e1 he; subst e1 he
          exact ⟨fun _ => rfl, fun h => absurd h h0⟩
    · rw [pUnary]
      have ku : KW ((pUnary f).bind fun e => P.ret (withE 4 [e])) := kw_bind h3 (fun e => kr _) (fun e => pb_ret _) (fun e => ple_ret _)
      have ku2 : KW ((pUnary f).bind fun e => P.ret (withE 20 [e])) := kw_bind h3 (fun e => kr _) (fun e => pb_ret _) (fun e => ple_ret _)
      exact kw_if ku (kw_if ku2 h4 (ple_bind l3.le fun e => ple_ret _) b4 l4.le) (ple_bind l3.le fun e => ple_ret _) (pb_if _ (pb_bind b3 l3.le fun e => pb_ret _) b4) (plt_if _ (ple_bind l3.le fun e => ple_ret _) l4).le
    · intro s a s' h0 he
      have hlt := (lens (f + 1)).2.2.2.1 _ _ _ he
      by_cases hc0 : (cut s).toks = []
      · have : s.toks.length = 1 := by
          have := congrArg List.length hc0
          unfold cut at this
          rw [List.length_dropLast, List.length_nil] at this
          have := List.length_pos_iff.2 h0
          omega
        exact ⟨fun h => absurd (List.eq_nil_of_length_eq_zero (by omega)) h, fun _ => end_weak (bads (f + 1)).2.2.2.1 (lens (f + 1)).2.2.2.1.le hc0⟩
      · rw [pPrimary] at he ⊢
        simp only at he ⊢
        rw [cut_isOf hc0, cut_hd hc0]
        split at he
        · rename_i hc; rw [if_pos hc]; exact kw_bind kw_pass (fun t => kr _) (fun t => pb_ret _) (fun t => ple_ret _) _ _ _ h0 he
        · rename_i hc; rw [if_neg hc]
          split at he
          · rename_i hc; rw [if_pos hc]
            exact kw_bind kw_pass (fun t => kw_if (kw_bind (h1 _) (fun e => kw_bind (ks_must _).weak (fun _ => kr _) (fun _ => pb_ret _) (fun _ => ple_ret _)) (fun e => pb_bind (pb_must _) (ple_must _) fun _ => pb_ret _) (fun e => ple_bind (ple_must _) fun _ => ple_ret _)) (kr _) (ple_bind (l1 _).le fun e => ple_bind (ple_must _) fun _ => ple_ret _) (pb_ret _) (ple_ret _))
              (fun t => pb_if _ (pb_bind (b1 _) (l1 _).le fun e => pb_bind (pb_must _) (ple_must _) fun _ => pb_ret _) (pb_ret _)) (fun t => ple_if _ (ple_bind (l1 _).le fun e => ple_bind (ple_must _) fun _ => ple_ret _) (ple_ret _)) _ _ _ h0 he
          · rename_i hc; rw [if_neg hc]
            split at he
            · rename_i hc; rw [if_pos hc]; exact h5 _ _ _ h0 he
            · rename_i hc; rw [if_neg hc]
              have kx : ∀ (g : Ex → Ex), KW ((pWithin f).bind fun e => P.ret (g e)) := fun g => kw_bind h5 (fun e => kr _) (fun e => pb_ret _) (fun e => ple_ret _)
              exact kw_if (kx _) (kw_if (kx _) (kw_cast h5 b5 l5.le) (ple_bind l5.le fun e => ple_ret _) (pb_cast b5 l5.le) (plt_cast l5.le).le) (ple_bind l5.le fun e => ple_ret _) (pb_if _ (pb_bind b5 l5.le fun e => pb_ret _) (pb_cast b5 l5.le)) (plt_if _ (ple_bind l5.le fun e => ple_ret _) (plt_cast l5.le)).le _ _ _ h0 he
    · rw [pWithin]
      refine kw_bind (ks_must _).weak (fun _ => kw_bind ks_in.weak (fun _ => kw_bind (h1 _) (fun e => kw_bind (ks_must _).weak (fun _ => kw_bind ks_out.weak (fun _ => kr _) (fun _ => pb_ret _) (fun _ => ple_ret _)) (fun _ => pb_bind pb_out ple_out fun _ => pb_ret _) (fun _ => ple_bind ple_out fun _ => ple_ret _))
        (fun e => pb_bind (pb_must _) (ple_must _) fun _ => pb_bind pb_out ple_out fun _ => pb_ret _) (fun e => ple_bind (ple_must _) fun _ => ple_bind ple_out fun _ => ple_ret _))
        (fun _ => pb_bind (b1 _) (l1 _).le fun e => pb_bind (pb_must _) (ple_must _) fun _ => pb_bind pb_out ple_out fun _ => pb_ret _) (fun _ => ple_bind (l1 _).le fun e => ple_bind (ple_must _) fun _ => ple_bind ple_out fun _ => ple_ret _))
        (fun _ => pb_bind pb_in ple_in fun _ => pb_bind (b1 _) (l1 _).le fun e => pb_bind (pb_must _) (ple_must _) fun _ => pb_bind pb_out ple_out fun _ => pb_ret _) (fun _ => ple_bind ple_in fun _ => ple_bind (l1 _).le fun e => ple_bind (ple_must _) fun _ => ple_bind ple_out fun _ => ple_ret _)
end

/-! Plain: without its last token no text is a program: statements, declarations, all of it. -/
section
set_option linter.unusedVariables false
set_option linter.unusedSimpArgs false
open Go.RowKit

theorem ks_numeral : KS pNumeral := ks_bind (ks_take (by decide)) (fun t => ks_ret _) (fun t => ple_ret _)
theorem ks_bound : KS pBound := ks_if (ks_bind ks_numeral (fun e => ks_ret _) (fun e => ple_ret _)) ks_numeral (ple_bind plt_numeral.le fun e => ple_ret _) pb_numeral plt_numeral
theorem ks_condition (f : Nat) : KS (pCondition f) :=
  ks_bind (ks_must _) (fun _ => ks_bindw ((cuts f).1 _) (fun e => ks_bind (ks_must _) (fun _ => ks_ret _) (fun _ => ple_ret _)) (fun e => pb_bind (pb_must _) (ple_must _) fun _ => pb_ret _) (fun e => plt_bind (plt_must _ _) fun _ => ple_ret _))
    (fun _ => ple_bind ((lens f).1 _).le fun e => ple_bind (ple_must _) fun _ => ple_ret _)
theorem cutS (f : Nat) : KS (pStmt f) ∧ KS (pBlock f) ∧ ∀ acc, KS (pStmts f acc) := by
  induction f with
  | zero =>
    refine ⟨?_, ?_, fun acc => ?_⟩
    · unfold pStmt; exact ks_none
    · unfold pBlock; exact ks_none
    · unfold pStmts; exact ks_none
  | succ f ih =>
    obtain ⟨h1, h2, h3⟩ := ih
    obtain ⟨l1, l2, l3⟩ := lenS f
    obtain ⟨b1, b2, b3⟩ := badS f
    have hX := (cuts f).1 0
    have lX := (lens f).1 0
    have bX := (bads f).1 0
    have hC := ks_condition f
    have lC := plt_condition f
    have bC := pb_condition f
    have m1 : ∀ {α : Type} (t : List UInt8) (r : List (List UInt8)) (a : α), KS ((pMust (t :: r)).bind fun _ => P.ret a) := fun t r a => ks_bind (ks_must _) (fun _ => ks_ret _) (fun _ => ple_ret _)
    have m2 : ∀ {α : Type} (t : List UInt8) (r : List (List UInt8)) (a : α), PLt ((pMust (t :: r)).bind fun _ => P.ret a) := fun t r a => plt_bind (plt_must _ _) fun _ => ple_ret _
    have m3 : ∀ {α : Type} (t : List UInt8) (r : List (List UInt8)) (a : α), PB ((pMust (t :: r)).bind fun _ => P.ret a) := fun t r a => pb_bind (pb_must _) (ple_must _) fun _ => pb_ret _
    refine ⟨?_, ?_, fun acc => ?_⟩
    · rw [pStmt]
      -- a value, and what is behind it
      have v1 : ∀ (g : Ex → St), KS ((pExpr f 0).bind fun e => (pMust [[59]]).bind fun _ => P.ret (g e)) := fun g => ks_bindw hX (fun e => m1 _ _ _) (fun e => m3 _ _ _) (fun e => m2 _ _ _)
      have v2 : ∀ (g : Ex → St), PLe ((pExpr f 0).bind fun e => (pMust [[59]]).bind fun _ => P.ret (g e)) := fun g => ple_bind lX.le fun e => (m2 _ _ _).le
      have v3 : ∀ (g : Ex → St), PB ((pExpr f 0).bind fun e => (pMust [[59]]).bind fun _ => P.ret (g e)) := fun g => pb_bind bX lX.le fun e => m3 _ _ _
      have w1 : ∀ (g : Ex → St), KS ((pMust [[61]]).bind fun _ => (pExpr f 0).bind fun e => (pMust [[59]]).bind fun _ => P.ret (g e)) := fun g => ks_bind (ks_must _) (fun _ => v1 g) (fun _ => v2 g)
      have w2 : ∀ (g : Ex → St), PLt ((pMust [[61]]).bind fun _ => (pExpr f 0).bind fun e => (pMust [[59]]).bind fun _ => P.ret (g e)) := fun g => plt_bind (plt_must _ _) fun _ => v2 g
      have w3 : ∀ (g : Ex → St), PB ((pMust [[61]]).bind fun _ => (pExpr f 0).bind fun e => (pMust [[59]]).bind fun _ => P.ret (g e)) := fun g => pb_bind (pb_must _) (ple_must _) fun _ => v3 g
      have x1 : ∀ (g : Ex → Ex → St), KS ((pExpr f 0).bind fun i => (pMust [[93]]).bind fun _ => (pMust [[61]]).bind fun _ => (pExpr f 0).bind fun e => (pMust [[59]]).bind fun _ => P.ret (g i e)) := fun g =>
        ks_bindw hX (fun i => ks_bind (ks_must _) (fun _ => w1 (g i)) (fun _ => (w2 (g i)).le)) (fun i => pb_bind (pb_must _) (ple_must _) fun _ => w3 (g i)) (fun i => plt_bind (plt_must _ _) fun _ => (w2 (g i)).le)
      have x2 : ∀ (g : Ex → Ex → St), PLt ((pExpr f 0).bind fun i => (pMust [[93]]).bind fun _ => (pMust [[61]]).bind fun _ => (pExpr f 0).bind fun e => (pMust [[59]]).bind fun _ => P.ret (g i e)) := fun g => plt_bind lX fun i => ple_bind (ple_must _) fun _ => (w2 (g i)).le
      have as1 : KS ((pTake [1]).bind fun n => (pEat [91]).bind fun b => if b = true then (pExpr f 0).bind fun i => (pMust [[93]]).bind fun _ => (pMust [[61]]).bind fun _ => (pExpr f 0).bind fun e => (pMust [[59]]).bind fun _ => P.ret (St.mk 1 n [i] e .no .no [] []) else (pMust [[61]]).bind fun _ => (pExpr f 0).bind fun e => (pMust [[59]]).bind fun _ => P.ret (St.mk 1 n [] e .no .no [] [])) :=
        ks_bind (ks_take (by decide)) (fun n => ks_if (x1 fun i e => St.mk 1 n [i] e .no .no [] []) (w1 fun e => St.mk 1 n [] e .no .no [] []) (x2 _).le (w3 _) (w2 _)) (fun n => ple_if _ (x2 _).le (w2 _).le)
      have as2 : PLt ((pTake [1]).bind fun n => (pEat [91]).bind fun b => if b = true then (pExpr f 0).bind fun i => (pMust [[93]]).bind fun _ => (pMust [[61]]).bind fun _ => (pExpr f 0).bind fun e => (pMust [[59]]).bind fun _ => P.ret (St.mk 1 n [i] e .no .no [] []) else (pMust [[61]]).bind fun _ => (pExpr f 0).bind fun e => (pMust [[59]]).bind fun _ => P.ret (St.mk 1 n [] e .no .no [] [])) :=
        plt_bind (plt_take _ (by decide)) fun n => ple_if _ (x2 _).le (w2 _).le
      -- a while, an if, a read
      have wh1 : KS ((pCondition f).bind fun e => (pBlock f).bind fun t => P.ret (St.mk 4 [] [] e .no .no t [])) := ks_bind hC (fun e => ks_bind h2 (fun t => ks_ret _) (fun t => ple_ret _)) (fun e => ple_bind l2.le fun t => ple_ret _)
      have wh2 : PLt ((pCondition f).bind fun e => (pBlock f).bind fun t => P.ret (St.mk 4 [] [] e .no .no t [])) := plt_bind lC fun e => ple_bind l2.le fun t => ple_ret _
      have el1 : ∀ e t, KS ((pEat [101, 108, 115, 101]).bind fun b => if b = true then (pBlock f).bind fun u => P.ret (St.mk 3 [] [] e .no .no t u) else P.ret (St.mk 3 [] [] e .no .no t [])) := fun e t => ks_if2 (ks_bind h2 (fun u => ks_ret _) (fun u => ple_ret _)) (ks_ret _) (plt_bind l2 fun u => ple_ret _)
      have el2 : ∀ e t, PLe ((pEat [101, 108, 115, 101]).bind fun b => if b = true then (pBlock f).bind fun u => P.ret (St.mk 3 [] [] e .no .no t u) else P.ret (St.mk 3 [] [] e .no .no t [])) := fun e t => ple_if _ (ple_bind l2.le fun u => ple_ret _) (ple_ret _)
      have if1 : KS ((pCondition f).bind fun e => (pBlock f).bind fun t => (pEat [101, 108, 115, 101]).bind fun b => if b = true then (pBlock f).bind fun u => P.ret (St.mk 3 [] [] e .no .no t u) else P.ret (St.mk 3 [] [] e .no .no t [])) := ks_bind hC (fun e => ks_bind h2 (fun t => el1 e t) (fun t => el2 e t)) (fun e => ple_bind l2.le fun t => el2 e t)
      have if2 : PLt ((pCondition f).bind fun e => (pBlock f).bind fun t => (pEat [101, 108, 115, 101]).bind fun b => if b = true then (pBlock f).bind fun u => P.ret (St.mk 3 [] [] e .no .no t u) else P.ret (St.mk 3 [] [] e .no .no t [])) := plt_bind lC fun e => ple_bind l2.le fun t => el2 e t
      have rd1 : KS ((pTake [1]).bind fun n => (pMust [[105, 110], [91]]).bind fun _ => pBound.bind fun l => (pMust [[44]]).bind fun _ => pBound.bind fun h => (pMust [[93], [59]]).bind fun _ => P.ret (St.mk 2 n [] .no l h [] [])) :=
        ks_bind (ks_take (by decide)) (fun n => ks_bind (ks_must _) (fun _ => ks_bind ks_bound (fun l => ks_bind (ks_must _) (fun _ => ks_bind ks_bound (fun h => m1 _ _ _) (fun h => (m2 _ _ _).le)) (fun _ => ple_bind plt_bound.le fun h => (m2 _ _ _).le)) (fun l => ple_bind (ple_must _) fun _ => ple_bind plt_bound.le fun h => (m2 _ _ _).le))
          (fun _ => ple_bind plt_bound.le fun l => ple_bind (ple_must _) fun _ => ple_bind plt_bound.le fun h => (m2 _ _ _).le)) (fun n => ple_bind (ple_must _) fun _ => ple_bind plt_bound.le fun l => ple_bind (ple_must _) fun _ => ple_bind plt_bound.le fun h => (m2 _ _ _).le)
      have rd2 : PLt ((pTake [1]).bind fun n => (pMust [[105, 110], [91]]).bind fun _ => pBound.bind fun l => (pMust [[44]]).bind fun _ => pBound.bind fun h => (pMust [[93], [59]]).bind fun _ => P.ret (St.mk 2 n [] .no l h [] [])) :=
        plt_bind (plt_take _ (by decide)) fun n => ple_bind (ple_must _) fun _ => ple_bind plt_bound.le fun l => ple_bind (ple_must _) fun _ => ple_bind plt_bound.le fun h => (m2 _ _ _).le
      exact ks_if2 rd1 (ks_if2 if1 (ks_if2 wh1 as1 wh2) if2) rd2
    · rw [pBlock]
      exact ks_bind (ks_must _) (fun _ => h3 _) (fun _ => l3 _)
    · rw [pStmts]
      exact ks_if (ks_ret _) (ks_bind h1 (fun x => h3 _) (fun x => l3 _)) (ple_ret _) (pb_bind b1 l1.le fun x => b3 _) (plt_bind l1 fun x => l3 _)
/-- At least two tokens go by. -/
def PL2 {α : Type} (m : P α) : Prop := ∀ s a s', m s = some (.ok a s') → s'.toks.length + 2 ≤ s.toks.length
theorem pl2_bind {α β : Type} {x : P α} {f : α → P β} (hx : PLt x) (hf : ∀ a, PLt (f a)) : PL2 (x.bind f) := by
  intro s b s' h
  obtain ⟨q, hq, ⟨n, rfl, hr⟩ | ⟨a, s1, rfl, hr⟩⟩ := P.bind_some h
  · cases hr
  · have h1 := hx _ _ _ hq
    have h2 := hf a _ _ _ hr
    omega
theorem pl2_if {β : Type} (t : List UInt8) {x y : P β} (hx : PLt x) (hy : PL2 y) : PL2 ((pEat t).bind fun b => if b = true then x else y) := by
  intro s b s' h
  obtain ⟨q, hq, ⟨n, rfl, hr⟩ | ⟨a, s1, rfl, hr⟩⟩ := P.bind_some h
  · cases hr
  · cases a with
    | true =>
      have h1 := eat_true hq
      have h2 := hx _ _ _ (by simpa using hr)
      omega
    | false =>
      have h1 := ple_eat t _ _ _ hq
      have h2 := hy _ _ _ (by simpa using hr)
      omega
theorem pl2_stmt (f : Nat) : PL2 (pStmt f) := by
  cases f with
  | zero => intro s a s' h; unfold pStmt at h; cases h
  | succ f =>
    rw [pStmt]
    refine pl2_if _ (plt_bind (plt_take _ (by decide)) fun n => ple_bind (ple_must _) fun _ => ple_bind plt_bound.le fun l => ple_bind (ple_must _) fun _ => ple_bind plt_bound.le fun h => ple_bind (ple_must _) fun _ => ple_ret _) ?_
    refine pl2_if _ (plt_bind (plt_condition f) fun e => ple_bind (lenS f).2.1.le fun t => ple_if _ (ple_bind (lenS f).2.1.le fun u => ple_ret _) (ple_ret _)) ?_
    refine pl2_if _ (plt_bind (plt_condition f) fun e => ple_bind (lenS f).2.1.le fun t => ple_ret _) ?_
    exact pl2_bind (plt_take _ (by decide)) fun n => plt_if _ (ple_bind ((lens f).1 0).le fun i => ple_bind (ple_must _) fun _ => ple_bind (ple_must _) fun _ => ple_bind ((lens f).1 0).le fun e => ple_bind (ple_must _) fun _ => ple_ret _) (plt_bind (plt_must _ _) fun _ => ple_bind ((lens f).1 0).le fun e => ple_bind (ple_must _) fun _ => ple_ret _)
theorem decl_body_plt (ty : List UInt8) : PLt ((pTake [1]).bind fun n => (pEat [91]).bind fun b => if b = true then
    (pTake [3]).bind fun t => (pOdd t).bind fun c => (pMust [[93]]).bind fun _ => (pMust [[59]]).bind fun _ => P.ret (De.mk n (typeOf ty) c)
  else (pMust [[59]]).bind fun _ => P.ret (De.mk n (typeOf ty) 0)) := plt_decl_body ty
theorem ks_decl : KS pDecl := by
  unfold pDecl
  have m1 : ∀ {α : Type} (t : List UInt8) (r : List (List UInt8)) (a : α), KS ((pMust (t :: r)).bind fun _ => P.ret a) := fun t r a => ks_bind (ks_must _) (fun _ => ks_ret _) (fun _ => ple_ret _)
  have m2 : ∀ {α : Type} (t : List UInt8) (r : List (List UInt8)) (a : α), PLt ((pMust (t :: r)).bind fun _ => P.ret a) := fun t r a => plt_bind (plt_must _ _) fun _ => ple_ret _
  have m3 : ∀ {α : Type} (t : List UInt8) (r : List (List UInt8)) (a : α), PB ((pMust (t :: r)).bind fun _ => P.ret a) := fun t r a => pb_bind (pb_must _) (ple_must _) fun _ => pb_ret _
  have cl : ∀ n ty, PLe ((pTake [3]).bind fun t => (pOdd t).bind fun c => (pMust [[93]]).bind fun _ => (pMust [[59]]).bind fun _ => P.ret (De.mk n (typeOf ty) c)) := fun n ty => ple_bind (ple_take _) fun t => ple_bind (ple_odd t) fun c => ple_bind (ple_must _) fun _ => (m2 _ _ _).le
  have ck : ∀ n ty, KS ((pTake [3]).bind fun t => (pOdd t).bind fun c => (pMust [[93]]).bind fun _ => (pMust [[59]]).bind fun _ => P.ret (De.mk n (typeOf ty) c)) := fun n ty =>
    ks_bind (ks_take (by decide)) (fun t => ks_bind (ks_odd t) (fun c => ks_bind (ks_must _) (fun _ => m1 _ _ _) (fun _ => (m2 _ _ _).le)) (fun c => ple_bind (ple_must _) fun _ => (m2 _ _ _).le)) (fun t => ple_bind (ple_odd t) fun c => ple_bind (ple_must _) fun _ => (m2 _ _ _).le)
  have cb : ∀ n ty, PB ((pTake [3]).bind fun t => (pOdd t).bind fun c => (pMust [[93]]).bind fun _ => (pMust [[59]]).bind fun _ => P.ret (De.mk n (typeOf ty) c)) := fun n ty => pb_bind (pb_take _) (ple_take _) fun t => pb_bind (pb_odd t) (ple_odd t) fun c => pb_bind (pb_must _) (ple_must _) fun _ => m3 _ _ _
  refine ks_bindw kw_pass (fun ty => ks_bind (ks_take (by decide)) (fun n => ks_if (ck n ty) (m1 _ _ _) (cl n ty) (m3 _ _ _) (m2 _ _ _)) (fun n => ple_if _ (cl n ty) (m2 _ _ _).le)) (fun ty => pb_bind (pb_take _) (ple_take _) fun n => pb_if _ (cb n ty) (m3 _ _ _)) (fun ty => decl_body_plt ty)
theorem pl2_decl : PL2 pDecl := by
  intro s a s' h
  unfold pDecl at h
  obtain ⟨q, hq, ⟨n, rfl, hr⟩ | ⟨ty, s1, rfl, hr⟩⟩ := P.bind_some h
  · cases hr
  · have h1 := decl_body_plt ty _ _ _ hr
    injection hq with hq; injection hq with _ hq; subst hq
    unfold drop1 at h1
    simp only [List.length_tail] at h1
    omega
theorem cut_two {s : PS} (h : 2 ≤ s.toks.length) : (cut s).toks ≠ [] := by
  intro e
  have := congrArg List.length e
  unfold cut at this
  rw [List.length_dropLast, List.length_nil] at this
  omega
theorem ks_decls (f : Nat) : ∀ acc, KS (pDecls f acc) := by
  induction f with
  | zero => intro acc; unfold pDecls; exact ks_none
  | succ f ih =>
    intro acc s a s' h0 e
    have hk : KS (pDecl.bind fun d => pDecls f (acc ++ [d])) := ks_bind ks_decl (fun d => ih _) (fun d => ple_decls f _)
    rw [pDecls] at e ⊢
    simp only at e ⊢
    split at e
    · rename_i hc
      obtain ⟨q, hq, ⟨n, rfl, hr⟩ | ⟨d, s1, rfl, hr⟩⟩ := P.bind_some e
      · cases hr
      · have h2 := cut_two (s := s) (by have := pl2_decl _ _ _ hq; omega)
        rw [cut_isOf h2, if_pos hc]
        exact hk _ _ _ h0 e
    · rename_i hc
      injection e with e; injection e with e1 e; subst e1 e
      refine ⟨fun _ => ?_, fun h => absurd h h0⟩
      by_cases h1 : (cut s).toks = []
      · rw [isOf_nil h1, if_neg (by simp)]
      · rw [cut_isOf h1, if_neg hc]
theorem ks_body (f k : Nat) : ∀ acc, KS (pBody f k acc) := by
  induction k with
  | zero => intro acc; unfold pBody; exact ks_none
  | succ k ih =>
    intro acc s a s' h0 e
    have hk : KS ((pStmt f).bind fun x => pBody f k (acc ++ [x])) := ks_bind (cutS f).1 (fun d => ih _) (fun d => ple_body f k _)
    rw [pBody] at e ⊢
    simp only at e ⊢
    rw [if_neg h0] at e
    obtain ⟨q, hq, ⟨n, rfl, hr⟩ | ⟨d, s1, rfl, hr⟩⟩ := P.bind_some e
    · cases hr
    · have h2 := cut_two (s := s) (by have := pl2_stmt _ _ _ _ hq; omega)
      rw [if_neg h2]
      exact hk _ _ _ h0 e
theorem ks_whole (f : Nat) : KS (pWhole f) := ks_bind (ks_decls f _) (fun ds => ks_bind (ks_body f f _) (fun b => ks_ret _) (fun b => ple_ret _)) (fun ds => ple_bind (ple_body f f _) fun b => ple_ret _)
/-- A program's tokens but the last one are none: it ends too early. -/
theorem whole_cut {fa fb : Nat} {u : List Tok} {t : Tok} {p : Pg} {sa : PS} {r : Res Pg} (ha : pWhole fa (ps0 (u ++ [t])) = some (.ok p sa)) (hb : pWhole fb (ps0 u) = some r) : r = .bad 0 := by
  obtain ⟨G, hG1, hG2⟩ : ∃ G, fa ≤ G ∧ fb ≤ G := ⟨fa + fb, by omega, by omega⟩
  obtain ⟨q, c1, c2⟩ := sm_whole hG1 _ _ _ (show Sim (ps0 (u ++ [t])) (ps0 (u ++ [t])) from rfl) ha
  cases q with
  | bad n => exact c2.elim
  | ok p' s' =>
    have h0 : s'.toks = [] := by
      obtain ⟨s1, _, h2⟩ := whole_split c1
      obtain ⟨_, _, h3, _⟩ := body_same _ _ _ _ _ _ h2
      exact h3
    have k := (ks_whole G _ _ _ (by simp [ps0]) c1).2 h0
    have hc : cut (ps0 (u ++ [t])) = ps0 u := by simp [cut, ps0]
    rw [hc] at k
    obtain ⟨q2, d1, d2⟩ := sm_whole hG2 _ _ _ (show Sim (ps0 u) (ps0 u) from rfl) hb
    rcases k with k | k
    · rw [k] at d1; cases d1
    · rw [k] at d1
      injection d1 with d1
      subst d1
      cases r with
      | bad n => exact congrArg Res.bad d2
      | ok a s => exact d2.elim
end
end Go.Proofs.YtokdcfehnhifhaaGreatDoor
