/- Plain: a text behind another one, with a blank between, is scanned as both. Plain: what the parser makes does not hang on places, on depths, or on more fuel. Plain: what the parser makes of tokens does not hang on those behind, where these go on with nothing. Plain: the program of two texts, one behind the other. -/
import Derived.Test.YtokdcfehnhifhaaGreatDoorRef
import Derived.Test.YtokdcfehnhifhaaGreatDoorPur
namespace Go.Proofs.YtokdcfehnhifhaaGreatDoor
/-! Plain: a text behind another one, with a blank between, is scanned as both. -/
section
set_option linter.unusedVariables false
set_option linter.unusedSimpArgs false

theorem tw_loc (p : Int → Bool) (l r : List UInt8) (hp : p 32 = false) : tw p (l ++ 32 :: r) = tw p l := by
  rw [tw_append]
  by_cases h : tw p l = l.length
  · rw [if_pos h, tw_no p 32 r (by simpa using hp), h]; rfl
  · rw [if_neg h]
theorem take_loc {l r : List UInt8} {n : Nat} (h : n ≤ l.length) : (l ++ r).take n = l.take n := List.take_append_of_le_length h
theorem pre_loc (l r : List UInt8) (c : UInt8) (h : c ≠ 32) : Lib.hasPrefix (l ++ 32 :: r) [c] = Lib.hasPrefix l [c] := by
  cases l with
  | nil =>
    simp only [List.nil_append, Lib.hasPrefix]
    have : (c == 32) = false := by simpa using h
    simp [List.isPrefixOf, this]
  | cons d l => simp [Lib.hasPrefix, List.isPrefixOf]
theorem pre2_loc (l r : List UInt8) (c d : UInt8) (h : d ≠ 32) (hl : l ≠ []) : Lib.hasPrefix (l ++ 32 :: r) [c, d] = Lib.hasPrefix l [c, d] := by
  cases l with
  | nil => exact absurd rfl hl
  | cons e l =>
    have := pre_loc l r d h
    simp only [Lib.hasPrefix, List.cons_append, List.isPrefixOf] at this ⊢
    rw [this]
theorem num_loc (l r : List UInt8) : numOf (l ++ 32 :: r) = numOf l := by
  have hd : isDi 32 = false := by decide
  have e1 := tw_loc isDi l r hd
  have hle := tw_le isDi l
  unfold numOf
  rw [e1, List.drop_append_of_le_length hle, pre_loc _ _ 46 (by decide)]
  by_cases hp : Lib.hasPrefix (l.drop (tw isDi l)) [46] = true
  · have hne : l.drop (tw isDi l) ≠ [] := by intro h; rw [h] at hp; simp [Lib.hasPrefix] at hp
    have hlt : tw isDi l < l.length := by
      by_cases hc : tw isDi l < l.length
      · exact hc
      · exact absurd (List.drop_of_length_le (by omega)) hne
    rw [List.drop_append_of_le_length (by omega), tw_loc isDi _ r hd]
  · rw [if_neg (fun h => hp h.1), if_neg (fun h => hp h.1)]
theorem sign_loc (l r : List UInt8) (hl : l ≠ []) : signOf (l ++ 32 :: r) = signOf l := by
  have h1 : twosL.any (Lib.hasPrefix (l ++ 32 :: r)) = twosL.any (Lib.hasPrefix l) := by
    simp only [twosL, List.any_cons, List.any_nil, pre2_loc l r _ _ (by decide : (61 : UInt8) ≠ 32) hl, pre2_loc l r _ _ (by decide : (38 : UInt8) ≠ 32) hl, pre2_loc l r _ _ (by decide : (124 : UInt8) ≠ 32) hl]
  have h2 : (l ++ 32 :: r).head? = l.head? := by
    cases l with
    | nil => exact absurd rfl hl
    | cons c l => rfl
  unfold signOf
  rw [h1, h2]
theorem tok_loc (l r : List UInt8) (hl : l ≠ []) : tokOf (l ++ 32 :: r) = tokOf l := by
  have hw := tw_loc inNm l r (by decide)
  unfold tokOf
  rw [hd0_append l _ hl, hw, take_loc (tw_le inNm l), num_loc, sign_loc l r hl]

theorem go_fuel : ∀ (f g : Nat) (l : List UInt8) (p : Nat) (ts : List Tok), l.length < f → l.length < g → scanGo f l p ts = scanGo g l p ts
  | 0, g, l, p, ts, h, _ => by omega
  | f + 1, 0, l, p, ts, _, h => by omega
  | f + 1, g + 1, l, p, ts, hf, hg => by
    by_cases hl : l = []
    · simp only [scanGo, if_pos hl]
    · simp only [scanGo, if_neg hl]
      by_cases h0 : (tokOf l).1 = 0
      · rw [if_pos h0, if_pos h0]
      · rw [if_neg h0, if_neg h0]
        by_cases h2 : ts.length = 2048
        · rw [if_pos h2, if_pos h2]
        · rw [if_neg h2, if_neg h2]
          have h1 : (l.drop ((tokOf l).1 + tw isBl (l.drop (tokOf l).1))).length < l.length := by
            have := List.length_pos_iff.2 hl
            rw [List.length_drop]
            omega
          exact go_fuel f g _ _ _ (by omega) (by omega)
/-- What is scanned behind a text that is scanned well. -/
theorem go_app (r : List UInt8) : ∀ (f : Nat) (l : List UInt8) (p : Nat) (ts ts' : List Tok), l.length < f → l ≠ [] → scanGo f l p ts = (ts', 0, 0) → ∀ F, (l ++ 32 :: r).length < F →
    scanGo F (l ++ 32 :: r) p ts = scanGo F (r.drop (tw isBl r)) (p + l.length + 1 + tw isBl r) ts'
  | 0, l, p, ts, ts', h, _, _ => by omega
  | f + 1, l, p, ts, ts', hf, hl, hs => by
    intro F hF
    obtain ⟨F, rfl⟩ : ∃ G, F = G + 1 := ⟨F - 1, by omega⟩
    have hne : l ++ 32 :: r ≠ [] := by simp
    have htl := tokOf_le l
    simp only [scanGo, if_neg hl] at hs
    by_cases h0 : (tokOf l).1 = 0
    · rw [if_pos h0] at hs; simp at hs
    · rw [if_neg h0] at hs
      by_cases h2 : ts.length = 2048
      · rw [if_pos h2] at hs; simp at hs
      · rw [if_neg h2] at hs
        have e0 : scanGo (F + 1) (l ++ 32 :: r) p ts = scanGo F ((l ++ 32 :: r).drop ((tokOf l).1 + tw isBl ((l ++ 32 :: r).drop (tokOf l).1))) (p + (tokOf l).1 + tw isBl ((l ++ 32 :: r).drop (tokOf l).1)) (ts ++ [⟨(tokOf l).2, l.take (tokOf l).1, p⟩]) := by
          simp only [scanGo]
          rw [if_neg hne, tok_loc l r hl, if_neg h0, if_neg h2, take_loc htl]
        rw [e0, List.drop_append_of_le_length htl]
        have hpos := List.length_pos_iff.2 hl
        rw [List.length_append, List.length_cons] at hF
        by_cases hb : tw isBl (l.drop (tokOf l).1) = (l.drop (tokOf l).1).length
        · have hd : l.drop ((tokOf l).1 + tw isBl (l.drop (tokOf l).1)) = [] := List.drop_of_length_le (by rw [hb, List.length_drop]; omega)
          rw [hd] at hs
          have hts : ts ++ [⟨(tokOf l).2, l.take (tokOf l).1, p⟩] = ts' := by
            cases f with
            | zero => omega
            | succ f => simp [scanGo] at hs; exact hs
          have ht : tw isBl (l.drop (tokOf l).1 ++ 32 :: r) = (l.drop (tokOf l).1).length + (1 + tw isBl r) := by
            rw [tw_append, if_pos hb, tw_yes isBl 32 r (by decide)]; omega
          rw [ht, hts]
          have hdd : (l ++ 32 :: r).drop ((tokOf l).1 + ((l.drop (tokOf l).1).length + (1 + tw isBl r))) = r.drop (tw isBl r) := by
            rw [List.length_drop, show (tokOf l).1 + (l.length - (tokOf l).1 + (1 + tw isBl r)) = l.length + (1 + tw isBl r) by omega, ← List.drop_drop, List.drop_left, show 1 + tw isBl r = tw isBl r + 1 by omega, List.drop_succ_cons]
          rw [hdd, show p + (tokOf l).1 + ((l.drop (tokOf l).1).length + (1 + tw isBl r)) = p + l.length + 1 + tw isBl r by rw [List.length_drop]; omega]
          exact go_fuel F (F + 1) _ _ _ (by rw [List.length_drop]; omega) (by rw [List.length_drop]; omega)
        · have hlt := tw_le isBl (l.drop (tokOf l).1)
          rw [List.length_drop] at hlt hb
          have ht : tw isBl (l.drop (tokOf l).1 ++ 32 :: r) = tw isBl (l.drop (tokOf l).1) := by rw [tw_append, if_neg (by rw [List.length_drop]; omega)]
          rw [ht, List.drop_append_of_le_length (by omega)]
          have hne2 : l.drop ((tokOf l).1 + tw isBl (l.drop (tokOf l).1)) ≠ [] := by
            intro h
            have := congrArg List.length h
            rw [List.length_drop, List.length_nil] at this
            omega
          have hl2 : (l.drop ((tokOf l).1 + tw isBl (l.drop (tokOf l).1))).length = l.length - ((tokOf l).1 + tw isBl (l.drop (tokOf l).1)) := List.length_drop
          have := go_app r f _ _ _ ts' (by omega) hne2 hs F (by rw [List.length_append, List.length_cons]; omega)
          rw [this, hl2, show p + (tokOf l).1 + tw isBl (l.drop (tokOf l).1) + (l.length - ((tokOf l).1 + tw isBl (l.drop (tokOf l).1))) + 1 + tw isBl r = p + l.length + 1 + tw isBl r by omega]
          exact go_fuel F (F + 1) _ _ _ (by rw [List.length_drop]; omega) (by rw [List.length_drop]; omega)
def shiftT (d : Nat) (t : Tok) : Tok := ⟨t.kind, t.text, t.at_ + d⟩
/-- Elsewhere, and behind other tokens. -/
theorem go_shift (d : Nat) : ∀ (f : Nat) (l : List UInt8) (p : Nat) (ts acc ts' : List Tok), scanGo f l p ts = (ts', 0, 0) → l.length < f → ts'.length ≤ 2048 →
    scanGo f l (p + d) (acc ++ ts.map (shiftT d)) = (acc ++ ts'.map (shiftT d), 0, 0) ∨ ∃ q, scanGo f l (p + d) (acc ++ ts.map (shiftT d)) = ([], 5, q) ∧ 2048 < acc.length + ts'.length
  | 0, l, p, ts, acc, ts', _, h, _ => by omega
  | f + 1, l, p, ts, acc, ts', hs, hf, hc => by
    by_cases hl : l = []
    · simp only [scanGo, if_pos hl] at hs ⊢
      left
      injection hs with h1 _
      rw [h1]
    · simp only [scanGo, if_neg hl] at hs ⊢
      by_cases h0 : (tokOf l).1 = 0
      · rw [if_pos h0] at hs; simp at hs
      · rw [if_neg h0] at hs ⊢
        by_cases h2 : ts.length = 2048
        · rw [if_pos h2] at hs; simp at hs
        · rw [if_neg h2] at hs
          have hgr : ts.length + 1 ≤ ts'.length := by
            have := go_len f _ _ _ _ hs (by rw [List.length_drop]; have := List.length_pos_iff.2 hl; omega)
            simpa using this
          by_cases h3 : (acc ++ ts.map (shiftT d)).length = 2048
          · rw [if_pos h3]
            right
            rw [List.length_append, List.length_map] at h3
            exact ⟨_, rfl, by omega⟩
          · rw [if_neg h3]
            have := go_shift d f _ _ _ acc ts' hs (by rw [List.length_drop]; have := List.length_pos_iff.2 hl; omega) hc
            rw [List.map_append, ← List.append_assoc] at this
            have e : p + (tokOf l).1 + tw isBl (l.drop (tokOf l).1) + d = p + d + (tokOf l).1 + tw isBl (l.drop (tokOf l).1) := by omega
            rw [e] at this
            exact this
where
  go_len : ∀ (f : Nat) (l : List UInt8) (p : Nat) (ts ts' : List Tok), scanGo f l p ts = (ts', 0, 0) → l.length < f → ts.length ≤ ts'.length
  | 0, l, p, ts, ts', _, h => by omega
  | f + 1, l, p, ts, ts', hs, hf => by
    by_cases hl : l = []
    · simp only [scanGo, if_pos hl] at hs
      injection hs with h1 _
      rw [h1]; exact Nat.le_refl _
    · simp only [scanGo, if_neg hl] at hs
      by_cases h0 : (tokOf l).1 = 0
      · rw [if_pos h0] at hs; simp at hs
      · rw [if_neg h0] at hs
        by_cases h2 : ts.length = 2048
        · rw [if_pos h2] at hs; simp at hs
        · rw [if_neg h2] at hs
          have := go_len f _ _ _ _ hs (by rw [List.length_drop]; have := List.length_pos_iff.2 hl; omega)
          rw [List.length_append] at this
          omega
/-- The tokens of two texts with a blank between are those of both, or there are too many bytes or tokens. -/
theorem scan_join (a b : List UInt8) (ta tb : List Tok) (ha : scan a = (ta, 0, 0)) (hb : scan b = (tb, 0, 0)) :
    (∃ d, scan (a ++ 32 :: b) = (ta ++ tb.map (shiftT d), 0, 0)) ∨ ∃ q, scan (a ++ 32 :: b) = ([], 5, q) := by
  have hca := scan_count a
  have hcb := scan_count b
  rw [ha] at hca
  rw [hb] at hcb
  simp only at hca hcb
  by_cases hlen : 8192 < (a ++ 32 :: b).length
  · right; exact ⟨0, by unfold scan; rw [if_pos hlen]⟩
  · have hl2 : (a ++ 32 :: b).length = a.length + (b.length + 1) := by simp
    have hal : ¬ 8192 < a.length := by omega
    have hbl : ¬ 8192 < b.length := by omega
    unfold scan at ha hb ⊢
    rw [if_neg hal] at ha
    rw [if_neg hbl] at hb
    rw [if_neg hlen]
    have hF : (b.drop (tw isBl b)).length < (a ++ 32 :: b).length + 1 := by rw [List.length_drop]; omega
    have fin : ∀ p, scanGo ((a ++ 32 :: b).length + 1) (a ++ 32 :: b |>.drop (tw isBl (a ++ 32 :: b))) (tw isBl (a ++ 32 :: b)) [] = scanGo ((a ++ 32 :: b).length + 1) (b.drop (tw isBl b)) (tw isBl b + p) ta →
        (∃ d, scanGo ((a ++ 32 :: b).length + 1) (a ++ 32 :: b |>.drop (tw isBl (a ++ 32 :: b))) (tw isBl (a ++ 32 :: b)) [] = (ta ++ tb.map (shiftT d), 0, 0)) ∨ ∃ q, scanGo ((a ++ 32 :: b).length + 1) (a ++ 32 :: b |>.drop (tw isBl (a ++ 32 :: b))) (tw isBl (a ++ 32 :: b)) [] = ([], 5, q) := by
      intro p h
      rw [h]
      rw [go_fuel _ ((a ++ 32 :: b).length + 1) _ _ _ (by rw [List.length_drop]; omega) hF] at hb
      have := go_shift p _ _ _ [] ta tb hb hF hcb
      simp only [List.map_nil, List.append_nil] at this
      rcases this with h | ⟨q, h, _⟩
      · exact Or.inl ⟨p, h⟩
      · exact Or.inr ⟨q, h⟩
    by_cases ht : tw isBl a = a.length
    · have e : tw isBl (a ++ 32 :: b) = a.length + (1 + tw isBl b) := by rw [tw_append, if_pos ht, tw_yes isBl 32 b (by decide)]; omega
      have hd : (a ++ 32 :: b).drop (a.length + (1 + tw isBl b)) = b.drop (tw isBl b) := by
        rw [← List.drop_drop, List.drop_left, show 1 + tw isBl b = tw isBl b + 1 by omega, List.drop_succ_cons]
      have hta : ta = [] := by
        rw [ht, List.drop_length] at ha
        simp [scanGo] at ha
        first | exact ha | exact ha.symm
      refine fin (a.length + 1) ?_
      rw [e, hd, hta, show a.length + (1 + tw isBl b) = tw isBl b + (a.length + 1) by omega]
    · have hle := tw_le isBl a
      have e : tw isBl (a ++ 32 :: b) = tw isBl a := by rw [tw_append, if_neg ht]
      have hne : a.drop (tw isBl a) ≠ [] := by
        intro h
        have := congrArg List.length h
        rw [List.length_drop, List.length_nil] at this
        omega
      refine fin (a.length + 1) ?_
      rw [e, List.drop_append_of_le_length hle]
      have hdl : (a.drop (tw isBl a)).length = a.length - tw isBl a := List.length_drop
      rw [go_app b (a.length + 1) (a.drop (tw isBl a)) (tw isBl a) [] ta (by omega) hne ha _ (by rw [List.length_append, List.length_cons]; omega)]
      rw [hdl, show tw isBl a + (a.length - tw isBl a) + 1 + tw isBl b = tw isBl b + (a.length + 1) by omega]
end

/-! Plain: what the parser makes does not hang on places, on depths, or on more fuel. -/
section
set_option linter.unusedVariables false
set_option linter.unusedSimpArgs false
open Go.RowKit

def kt (t : Tok) : Int × List UInt8 := (t.kind, t.text)
def Sim (s s' : PS) : Prop := s.toks.map kt = s'.toks.map kt
def SimR {α : Type} : Res α → Res α → Prop
  | .bad n, .bad m => n = m
  | .ok a s, .ok b s' => a = b ∧ Sim s s'
  | _, _ => False
def SM {α : Type} (m m' : P α) : Prop := ∀ s s' r, Sim s s' → m s = some r → ∃ r', m' s' = some r' ∧ SimR r r'
theorem Sim.len {s s' : PS} (h : Sim s s') : s.toks.length = s'.toks.length := by have := congrArg List.length h; simpa using this
theorem Sim.hd {s s' : PS} (h : Sim s s') : kt (hd s) = kt (hd s') := by
  unfold Sim at h
  unfold Go.Proofs.YtokdcfehnhifhaaGreatDoor.hd
  cases h1 : s.toks with
  | nil =>
    rw [h1] at h
    have : s'.toks = [] := by simpa using h.symm
    rw [this]
  | cons a r =>
    rw [h1] at h
    cases h2 : s'.toks with
    | nil => rw [h2] at h; simp at h
    | cons b q => rw [h2] at h; simp only [List.map_cons, List.cons.injEq] at h; exact h.1
theorem Sim.kind {s s' : PS} (h : Sim s s') : (Go.Proofs.YtokdcfehnhifhaaGreatDoor.hd s).kind = (Go.Proofs.YtokdcfehnhifhaaGreatDoor.hd s').kind := congrArg Prod.fst h.hd
theorem Sim.text {s s' : PS} (h : Sim s s') : (Go.Proofs.YtokdcfehnhifhaaGreatDoor.hd s).text = (Go.Proofs.YtokdcfehnhifhaaGreatDoor.hd s').text := congrArg Prod.snd h.hd
theorem Sim.drop {s s' : PS} (h : Sim s s') : Sim (drop1 s) (drop1 s') := by
  unfold Sim drop1 at *
  simp only [List.map_tail, h]
theorem Sim.isOf {s s' : PS} (h : Sim s s') (ts : List (List UInt8)) : isOf ts s = isOf ts s' := by
  unfold Go.Proofs.YtokdcfehnhifhaaGreatDoor.isOf
  rw [h.kind, h.text]
theorem sm_ret {α : Type} (a : α) : SM (P.ret a) (P.ret a) := by
  intro s s' r h e
  injection e with e
  subst e
  exact ⟨_, rfl, rfl, h⟩
theorem sm_fail {α : Type} : SM (P.fail : P α) P.fail := by
  intro s s' r h e
  injection e with e
  subst e
  exact ⟨_, rfl, h.len⟩
theorem sm_none {α : Type} (m : P α) : SM (fun _ => none : P α) m := by intro s s' r h e; cases e
theorem sm_bind {α β : Type} {x x' : P α} {f f' : α → P β} (hx : SM x x') (hf : ∀ a, SM (f a) (f' a)) : SM (x.bind f) (x'.bind f') := by
  intro s s' r h e
  obtain ⟨q, hq, hc⟩ := P.bind_some e
  obtain ⟨q', hq', hs⟩ := hx _ _ _ h hq
  rcases hc with ⟨n, rfl, rfl⟩ | ⟨a, s1, rfl, hr⟩
  · cases q' with
    | bad m => exact ⟨.bad m, by unfold P.bind; rw [hq'], hs⟩
    | ok b t => exact hs.elim
  · cases q' with
    | bad m => exact hs.elim
    | ok b t =>
      obtain ⟨rfl, h1⟩ := hs
      obtain ⟨r', hr', hs'⟩ := hf a _ _ _ h1 hr
      exact ⟨r', by unfold P.bind; rw [hq']; exact hr', hs'⟩
theorem sm_pass : SM pPass pPass := by
  intro s s' r h e
  injection e with e
  subst e
  exact ⟨_, rfl, h.text, h.drop⟩
theorem sm_take (ks : List Int) : SM (pTake ks) (pTake ks) := by
  intro s s' r h e
  unfold pTake at e ⊢
  rw [← h.kind]
  split at e
  · rename_i hc; rw [if_pos hc]; exact sm_pass _ _ _ h e
  · rename_i hc; rw [if_neg hc]; exact sm_fail _ _ _ h e
theorem sm_eat (t : List UInt8) : SM (pEat t) (pEat t) := by
  intro s s' r h e
  unfold pEat at e ⊢
  rw [← h.isOf]
  split at e
  · rename_i hc; rw [if_pos hc]; injection e with e; subst e; exact ⟨_, rfl, rfl, h.drop⟩
  · rename_i hc; rw [if_neg hc]; injection e with e; subst e; exact ⟨_, rfl, rfl, h⟩
theorem sm_if {β : Type} (t : List UInt8) {x y x' y' : P β} (hx : SM x x') (hy : SM y y') : SM ((pEat t).bind fun b => if b = true then x else y) ((pEat t).bind fun b => if b = true then x' else y') :=
  sm_bind (sm_eat t) fun b => by cases b <;> simpa
theorem sm_must : ∀ l, SM (pMust l) (pMust l)
  | [] => sm_ret ()
  | t :: r => sm_if t (sm_must r) sm_fail
theorem sm_in : SM pIn pIn := by
  intro s s' r h e
  injection e with e
  subst e
  exact ⟨_, rfl, rfl, h⟩
theorem sm_out : SM pOut pOut := by
  intro s s' r h e
  injection e with e
  subst e
  exact ⟨_, rfl, rfl, h⟩
theorem sm_odd (t : List UInt8) : SM (pOdd t) (pOdd t) := by
  intro s s' r h e
  injection e with e
  subst e
  exact ⟨_, rfl, rfl, h⟩
theorem sm_cast {x x' : P Ex} (hx : SM x x') : SM (pCastW x) (pCastW x') := by
  intro s s' r h e
  unfold pCastW at e ⊢
  rw [← h.isOf]
  split at e
  · rename_i hc; rw [if_pos hc]; exact sm_bind sm_pass (fun t => sm_bind hx fun e => sm_ret _) _ _ _ h e
  · rename_i hc; rw [if_neg hc]; exact sm_fail _ _ _ h e
theorem sims (f : Nat) : ∀ g, f ≤ g → (∀ l, SM (pExpr f l) (pExpr g l)) ∧ (∀ l e, SM (pRest f l e) (pRest g l e)) ∧ SM (pUnary f) (pUnary g) ∧ SM (pPrimary f) (pPrimary g) ∧ SM (pWithin f) (pWithin g) := by
  induction f with
  | zero =>
    intro g _
    refine ⟨fun l => ?_, fun l e => ?_, ?_, ?_, ?_⟩
    · rw [show pExpr 0 l = fun _ => none by funext; unfold pExpr; rfl]; exact sm_none _
    · rw [show pRest 0 l e = fun _ => none by funext; unfold pRest; rfl]; exact sm_none _
    · rw [show pUnary 0 = fun _ => none by funext; unfold pUnary; rfl]; exact sm_none _
    · rw [show pPrimary 0 = fun _ => none by funext; unfold pPrimary; rfl]; exact sm_none _
    · rw [show pWithin 0 = fun _ => none by funext; unfold pWithin; rfl]; exact sm_none _
  | succ f ih =>
    intro g hg
    obtain ⟨g, rfl⟩ : ∃ k, g = k + 1 := ⟨g - 1, by omega⟩
    obtain ⟨h1, h2, h3, h4, h5⟩ := ih g (by omega)
    refine ⟨fun l => ?_, fun l e => ?_, ?_, ?_, ?_⟩
    · rw [pExpr, pExpr]
      split
      · exact h3
      · exact sm_bind (h1 _) fun e => h2 _ _
    · intro s s' r h he
      rw [pRest] at he ⊢
      simp only at he ⊢
      rw [← h.isOf]
      split at he
      · rename_i hc; rw [if_pos hc]; exact sm_bind sm_pass (fun t => sm_bind (h1 _) fun e2 => h2 _ _) _ _ _ h he
      · rename_i hc; rw [if_neg hc]; injection he with he; subst he; exact ⟨_, rfl, rfl, h⟩
    · rw [pUnary, pUnary]
      exact sm_if _ (sm_bind h3 fun e => sm_ret _) (sm_if _ (sm_bind h3 fun e => sm_ret _) h4)
    · intro s s' r h he
      rw [pPrimary] at he ⊢
      simp only at he ⊢
      rw [← h.isOf, ← h.kind]
      split at he
      · rename_i hc; rw [if_pos hc]; exact sm_bind sm_pass (fun t => sm_ret _) _ _ _ h he
      · rename_i hc; rw [if_neg hc]
        split at he
        · rename_i hc; rw [if_pos hc]; exact sm_bind sm_pass (fun t => sm_if _ (sm_bind (h1 _) fun e => sm_bind (sm_must _) fun _ => sm_ret _) (sm_ret _)) _ _ _ h he
        · rename_i hc; rw [if_neg hc]
          split at he
          · rename_i hc; rw [if_pos hc]; exact h5 _ _ _ h he
          · rename_i hc; rw [if_neg hc]; exact sm_if _ (sm_bind h5 fun e => sm_ret _) (sm_if _ (sm_bind h5 fun e => sm_ret _) (sm_cast h5)) _ _ _ h he
    · rw [pWithin, pWithin]
      exact sm_bind (sm_must _) fun _ => sm_bind sm_in fun _ => sm_bind (h1 _) fun e => sm_bind (sm_must _) fun _ => sm_bind sm_out fun _ => sm_ret _
theorem sm_numeral : SM pNumeral pNumeral := sm_bind (sm_take _) fun t => sm_ret _
theorem sm_bound : SM pBound pBound := sm_if _ (sm_bind sm_numeral fun e => sm_ret _) sm_numeral
theorem sm_condition {f g : Nat} (h : f ≤ g) : SM (pCondition f) (pCondition g) := sm_bind (sm_must _) fun _ => sm_bind ((sims f g h).1 _) fun e => sm_bind (sm_must _) fun _ => sm_ret _
theorem simS (f : Nat) : ∀ g, f ≤ g → SM (pStmt f) (pStmt g) ∧ SM (pBlock f) (pBlock g) ∧ ∀ acc, SM (pStmts f acc) (pStmts g acc) := by
  induction f with
  | zero =>
    intro g _
    refine ⟨?_, ?_, fun acc => ?_⟩
    · rw [show pStmt 0 = fun _ => none by funext; unfold pStmt; rfl]; exact sm_none _
    · rw [show pBlock 0 = fun _ => none by funext; unfold pBlock; rfl]; exact sm_none _
    · rw [show pStmts 0 acc = fun _ => none by funext; unfold pStmts; rfl]; exact sm_none _
  | succ f ih =>
    intro g hg
    obtain ⟨g, rfl⟩ : ∃ k, g = k + 1 := ⟨g - 1, by omega⟩
    obtain ⟨h1, h2, h3⟩ := ih g (by omega)
    have hE := ((sims f g (by omega)).1 0)
    have hC := sm_condition (show f ≤ g by omega)
    refine ⟨?_, ?_, fun acc => ?_⟩
    · rw [pStmt, pStmt]
      refine sm_if _ (sm_bind (sm_take _) fun n => sm_bind (sm_must _) fun _ => sm_bind sm_bound fun l => sm_bind (sm_must _) fun _ => sm_bind sm_bound fun h => sm_bind (sm_must _) fun _ => sm_ret _) ?_
      refine sm_if _ (sm_bind hC fun e => sm_bind h2 fun t => sm_if _ (sm_bind h2 fun u => sm_ret _) (sm_ret _)) ?_
      refine sm_if _ (sm_bind hC fun e => sm_bind h2 fun t => sm_ret _) ?_
      exact sm_bind (sm_take _) fun n => sm_if _ (sm_bind hE fun i => sm_bind (sm_must _) fun _ => sm_bind (sm_must _) fun _ => sm_bind hE fun e => sm_bind (sm_must _) fun _ => sm_ret _) (sm_bind (sm_must _) fun _ => sm_bind hE fun e => sm_bind (sm_must _) fun _ => sm_ret _)
    · rw [pBlock, pBlock]
      exact sm_bind (sm_must _) fun _ => h3 _
    · rw [pStmts, pStmts]
      exact sm_if _ (sm_ret _) (sm_bind h1 fun x => h3 _)
theorem sm_decl : SM pDecl pDecl := by
  unfold pDecl
  exact sm_bind sm_pass fun ty => sm_bind (sm_take _) fun n => sm_if _ (sm_bind (sm_take _) fun t => sm_bind (sm_odd _) fun c => sm_bind (sm_must _) fun _ => sm_bind (sm_must _) fun _ => sm_ret _) (sm_bind (sm_must _) fun _ => sm_ret _)
theorem sm_decls (f : Nat) : ∀ g, f ≤ g → ∀ acc, SM (pDecls f acc) (pDecls g acc) := by
  induction f with
  | zero => intro g _ acc; rw [show pDecls 0 acc = fun _ => none by funext; unfold pDecls; rfl]; exact sm_none _
  | succ f ih =>
    intro g hg acc s s' r h he
    obtain ⟨g, rfl⟩ : ∃ k, g = k + 1 := ⟨g - 1, by omega⟩
    rw [pDecls] at he ⊢
    simp only at he ⊢
    rw [← h.isOf]
    split at he
    · rename_i hc; rw [if_pos hc]; exact sm_bind sm_decl (fun d => ih g (by omega) _) _ _ _ h he
    · rename_i hc; rw [if_neg hc]; injection he with he; subst he; exact ⟨_, rfl, rfl, h⟩
theorem sm_body (f g : Nat) (hfg : f ≤ g) (k : Nat) : ∀ j, k ≤ j → ∀ acc, SM (pBody f k acc) (pBody g j acc) := by
  induction k with
  | zero => intro j _ acc; rw [show pBody f 0 acc = fun _ => none by funext; unfold pBody; rfl]; exact sm_none _
  | succ k ih =>
    intro j hj acc s s' r h he
    obtain ⟨j, rfl⟩ : ∃ i, j = i + 1 := ⟨j - 1, by omega⟩
    rw [pBody] at he ⊢
    simp only at he ⊢
    have hn : s.toks = [] ↔ s'.toks = [] := by rw [← List.length_eq_zero_iff, ← List.length_eq_zero_iff, h.len]
    by_cases h0 : s.toks = []
    · rw [if_pos h0] at he
      rw [if_pos (hn.1 h0)]
      injection he with he; subst he; exact ⟨_, rfl, rfl, h⟩
    · rw [if_neg h0] at he
      rw [if_neg (fun e => h0 (hn.2 e))]
      exact sm_bind (simS f g hfg).1 (fun x => ih j (by omega) _) _ _ _ h he
end

/-! Plain: what the parser makes of tokens does not hang on those behind, where these go on with nothing. -/
section
set_option linter.unusedVariables false
set_option linter.unusedSimpArgs false
open Go.RowKit

def app (E : List Tok) (s : PS) : PS := { s with toks := s.toks ++ E }
def stOf (E : List Tok) : PS := ⟨E, 0, 0, false⟩
/-- What a statement, or an expression, could go on with. -/
def contL : List (List UInt8) := [101, 108, 115, 101] :: [91] :: opsL.flatten
def NEh (E : List Tok) : Prop := ∀ x ∈ contL, isOf [x] (stOf E) = false
/-- It is so with them behind, too. -/
def PLa (E : List Tok) {α : Type} (m : P α) (s : PS) : Prop := ∀ a s', m s = some (.ok a s') → m (app E s) = some (.ok a (app E s'))
section
variable {E : List Tok} {α β : Type}
theorem hd_app {s : PS} (h : s.toks ≠ []) : hd (app E s) = hd s := by
  unfold hd app
  cases e : s.toks with
  | nil => exact absurd e h
  | cons a r => rfl
theorem isOf_app {s : PS} (h : s.toks ≠ []) (ts : List (List UInt8)) : isOf ts (app E s) = isOf ts s := by unfold isOf; rw [hd_app h]
theorem isOf_end {s : PS} (h : s.toks = []) (ts : List (List UInt8)) : isOf ts (app E s) = isOf ts (stOf E) := by unfold isOf hd app stOf; simp only [h, List.nil_append]
theorem isOf_nil {s : PS} (h : s.toks = []) (ts : List (List UInt8)) : isOf ts s = false := by unfold isOf hd; rw [h]; rfl
theorem drop_app {s : PS} (h : s.toks ≠ []) : drop1 (app E s) = app E (drop1 s) := by
  unfold drop1 app
  cases e : s.toks with
  | nil => exact absurd e h
  | cons a r => rfl
theorem pl_ret (a : α) (s : PS) : PLa E (P.ret a) s := by
  intro b s' h
  injection h with h; injection h with h1 h; subst h1 h
  rfl
theorem pl_fail (s : PS) : PLa E (P.fail : P α) s := by intro b s' h; injection h with h; cases h
theorem pl_bind {x : P α} {f : α → P β} {s : PS} (hx : PLa E x s) (hf : ∀ a s1, x s = some (.ok a s1) → PLa E (f a) s1) : PLa E (x.bind f) s := by
  intro b s' h
  obtain ⟨q, hq, ⟨n, rfl, hr⟩ | ⟨a, s1, rfl, hr⟩⟩ := P.bind_some h
  · cases hr
  · unfold P.bind
    rw [hx a s1 hq]
    exact hf a s1 hq b s' hr
/-- What never ends well without tokens. -/
theorem pl_lt {m : P α} (hm : PLt m) {s : PS} (h : s.toks ≠ [] → PLa E m s) : PLa E m s := by
  by_cases h0 : s.toks = []
  · intro a s' e
    have := hm _ _ _ e
    rw [h0] at this
    simp at this
  · exact h h0
theorem pl_pass {s : PS} (h : s.toks ≠ []) : PLa E pPass s := by
  intro a s' e
  injection e with e; injection e with e1 e; subst e1 e
  unfold pPass
  rw [hd_app h, drop_app h]
theorem pl_take {ks : List Int} (h0 : ks.contains 0 = false) (s : PS) : PLa E (pTake ks) s :=
  pl_lt (plt_take ks h0) fun h a s' e => by
    unfold pTake at e ⊢
    rw [hd_app h]
    split at e
    · rename_i hc; rw [if_pos hc]; exact pl_pass h a s' e
    · rename_i hc; rw [if_neg hc]; exact pl_fail s a s' e
theorem pl_eat {t : List UInt8} {s : PS} (h : s.toks ≠ [] ∨ isOf [t] (stOf E) = false) : PLa E (pEat t) s := by
  by_cases h0 : s.toks = []
  · have he : isOf [t] (stOf E) = false := by rcases h with h | h; exact absurd h0 h; exact h
    intro a s' e
    unfold pEat at e ⊢
    rw [isOf_end h0, he]
    rw [isOf_nil h0] at e
    simp only [if_neg (show ¬ (false = true) by simp)] at e ⊢
    injection e with e; injection e with e1 e; subst e1 e
    rfl
  · intro a s' e
    unfold pEat at e ⊢
    rw [isOf_app h0]
    split at e
    · rename_i hc; rw [if_pos hc, drop_app h0]; injection e with e; injection e with e1 e; subst e1 e; rfl
    · rename_i hc; rw [if_neg hc]; injection e with e; injection e with e1 e; subst e1 e; rfl
theorem pl_ite {t : List UInt8} {x y : P β} {s : PS} (hc : s.toks ≠ [] ∨ isOf [t] (stOf E) = false) (hx : ∀ s1, PLa E x s1) (hy : PLa E y s) : PLa E ((pEat t).bind fun b => if b = true then x else y) s := by
  refine pl_bind (pl_eat hc) fun b s1 e => ?_
  cases b with
  | true => simpa using hx s1
  | false =>
    unfold pEat at e
    split at e
    · injection e with e; injection e with e _; cases e
    · injection e with e; injection e with _ e; subst e; simpa using hy
theorem pl_if {t : List UInt8} {x y : P β} {s : PS} (hx : ∀ s1, PLa E x s1) (hy : PLa E y s) (hl : PLe x) (hm : PLt y) : PLa E ((pEat t).bind fun b => if b = true then x else y) s :=
  pl_lt (plt_if t hl hm) fun h => pl_ite (Or.inl h) hx hy
theorem pl_must : ∀ l (s : PS), PLa E (pMust l) s
  | [], s => pl_ret () s
  | t :: r, s => pl_if (fun s1 => pl_must r s1) (pl_fail s) (ple_must r) plt_fail
theorem pl_in (s : PS) : PLa E pIn s := by
  intro a s' e
  injection e with e; injection e with e1 e; subst e1 e
  rfl
theorem pl_out (s : PS) : PLa E pOut s := by
  intro a s' e
  injection e with e; injection e with e1 e; subst e1 e
  rfl
theorem pl_odd (t : List UInt8) (s : PS) : PLa E (pOdd t) s := by
  intro a s' e
  injection e with e; injection e with e1 e; subst e1 e
  rfl
theorem pl_cast {x : P Ex} (hl : PLe x) (hx : ∀ s, PLa E x s) (s : PS) : PLa E (pCastW x) s :=
  pl_lt (plt_cast hl) fun h a s' e => by
    unfold pCastW at e ⊢
    rw [isOf_app h]
    split at e
    · rename_i hc; rw [if_pos hc]; exact pl_bind (pl_pass h) (fun t s1 _ => pl_bind (hx s1) fun _ s2 _ => pl_ret _ s2) a s' e
    · rename_i hc; rw [if_neg hc]; exact pl_fail s a s' e
theorem NEh.ops (h : NEh E) {level : Nat} (hl : level < 5) : isOf (opsAt level) (stOf E) = false := by
  have hm : ∀ x ∈ opsAt level, isOf [x] (stOf E) = false := fun x hx => h x (by
    unfold contL
    refine List.mem_cons_of_mem _ (List.mem_cons_of_mem _ (List.mem_flatten.2 ⟨opsAt level, ?_, hx⟩))
    unfold opsAt
    have : level < opsL.length := hl
    rw [List.getD_eq_getElem?_getD, List.getElem?_eq_getElem this, Option.getD_some]
    exact List.getElem_mem this)
  rw [Bool.eq_false_iff]
  intro ht
  unfold isOf at ht hm
  rw [Bool.and_eq_true, List.contains_iff_mem] at ht
  have := hm _ ht.2
  rw [ht.1] at this
  simp at this
theorem locs (hE : NEh E) (f : Nat) : (∀ l s, l ≤ 5 → PLa E (pExpr f l) s) ∧ (∀ l e s, l < 5 → PLa E (pRest f l e) s) ∧ (∀ s, PLa E (pUnary f) s) ∧ (∀ s, PLa E (pPrimary f) s) ∧ (∀ s, PLa E (pWithin f) s) := by
  induction f with
  | zero =>
    refine ⟨fun l s _ => ?_, fun l e s _ => ?_, fun s => ?_, fun s => ?_, fun s => ?_⟩
    · intro a s' e; unfold pExpr at e; cases e
    · intro a s' e; unfold pRest at e; cases e
    · intro a s' e; unfold pUnary at e; cases e
    · intro a s' e; unfold pPrimary at e; cases e
    · intro a s' e; unfold pWithin at e; cases e
  | succ f ih =>
    obtain ⟨h1, h2, h3, h4, h5⟩ := ih
    obtain ⟨l1, l2, l3, l4, l5⟩ := lens f
    refine ⟨fun l s hl => ?_, fun l e s hl => ?_, fun s => ?_, fun s => ?_, fun s => ?_⟩
    · rw [pExpr]
      split
      · exact h3 s
      · exact pl_bind (h1 _ s (by omega)) fun e s1 _ => h2 _ _ s1 (by omega)
    · intro a s' he
      rw [pRest] at he ⊢
      simp only at he ⊢
      by_cases h0 : s.toks = []
      · rw [isOf_end h0, hE.ops hl, if_neg (by simp)]
        rw [isOf_nil h0, if_neg (by simp)] at he
        injection he with he; injection he with e1 he; subst e1 he
        rfl
      · rw [isOf_app h0]
        split at he
        · rename_i hc; rw [if_pos hc]
          exact pl_bind (pl_pass h0) (fun t s1 _ => pl_bind (h1 _ s1 (by omega)) fun e2 s2 _ => h2 _ _ s2 hl) a s' he
        · rename_i hc; rw [if_neg hc]
          injection he with he; injection he with e1 he; subst e1 he
          rfl
    · rw [pUnary]
      exact pl_if (fun s1 => pl_bind (h3 s1) fun _ s2 _ => pl_ret _ s2) (pl_if (fun s1 => pl_bind (h3 s1) fun _ s2 _ => pl_ret _ s2) (h4 s) (ple_bind l3.le fun e => ple_ret _) l4) (ple_bind l3.le fun e => ple_ret _) (plt_if _ (ple_bind l3.le fun e => ple_ret _) l4)
    · refine pl_lt (lens (f + 1)).2.2.2.1 fun h0 a s' he => ?_
      rw [pPrimary] at he ⊢
      simp only at he ⊢
      rw [isOf_app h0, hd_app h0]
      split at he
      · rename_i hc; rw [if_pos hc]; exact pl_bind (pl_pass h0) (fun t s1 _ => pl_ret _ s1) a s' he
      · rename_i hc; rw [if_neg hc]
        split at he
        · rename_i hc; rw [if_pos hc]
          exact pl_bind (pl_pass h0) (fun t s1 _ => pl_ite (Or.inr (hE [91] (by simp [contL]))) (fun s2 => pl_bind (h1 _ s2 (by omega)) fun e s3 _ => pl_bind (pl_must _ s3) fun _ s4 _ => pl_ret _ s4) (pl_ret _ s1)) a s' he
        · rename_i hc; rw [if_neg hc]
          split at he
          · rename_i hc; rw [if_pos hc]; exact h5 s a s' he
          · rename_i hc; rw [if_neg hc]
            exact pl_ite (Or.inl h0) (fun s1 => pl_bind (h5 s1) fun _ s2 _ => pl_ret _ s2) (pl_ite (Or.inl h0) (fun s1 => pl_bind (h5 s1) fun _ s2 _ => pl_ret _ s2) (pl_cast l5.le h5 s)) a s' he
    · rw [pWithin]
      exact pl_bind (pl_must _ s) fun _ s1 _ => pl_bind (pl_in s1) fun _ s2 _ => pl_bind (h1 _ s2 (by omega)) fun e s3 _ => pl_bind (pl_must _ s3) fun _ s4 _ => pl_bind (pl_out s4) fun _ s5 _ => pl_ret _ s5
theorem pl_numeral (s : PS) : PLa E pNumeral s := pl_bind (pl_take (by decide) s) fun t s1 _ => pl_ret _ s1
theorem pl_bound (s : PS) : PLa E pBound s := pl_if (fun s1 => pl_bind (pl_numeral s1) fun e s2 _ => pl_ret _ s2) (pl_numeral s) (ple_bind plt_numeral.le fun e => ple_ret _) plt_numeral
theorem pl_condition (hE : NEh E) (f : Nat) (s : PS) : PLa E (pCondition f) s := pl_bind (pl_must _ s) fun _ s1 _ => pl_bind ((locs hE f).1 _ s1 (by omega)) fun e s2 _ => pl_bind (pl_must _ s2) fun _ s3 _ => pl_ret _ s3
theorem locS (hE : NEh E) (f : Nat) : (∀ s, PLa E (pStmt f) s) ∧ (∀ s, PLa E (pBlock f) s) ∧ ∀ acc s, PLa E (pStmts f acc) s := by
  induction f with
  | zero =>
    refine ⟨fun s => ?_, fun s => ?_, fun acc s => ?_⟩
    · intro a s' e; unfold pStmt at e; cases e
    · intro a s' e; unfold pBlock at e; cases e
    · intro a s' e; unfold pStmts at e; cases e
  | succ f ih =>
    obtain ⟨h1, h2, h3⟩ := ih
    obtain ⟨l1, l2, l3⟩ := lenS f
    have hX := fun s => (locs hE f).1 0 s (by omega)
    have hC := pl_condition hE f
    refine ⟨fun s => pl_lt (lenS (f + 1)).1 fun h0 => ?_, fun s => ?_, fun acc s => ?_⟩
    · rw [pStmt]
      refine pl_ite (Or.inl h0) (fun s => pl_bind (pl_take (by decide) s) fun n s _ => pl_bind (pl_must _ s) fun _ s _ => pl_bind (pl_bound s) fun l s _ => pl_bind (pl_must _ s) fun _ s _ => pl_bind (pl_bound s) fun h s _ => pl_bind (pl_must _ s) fun _ s _ => pl_ret _ s) ?_
      refine pl_ite (Or.inl h0) (fun s => pl_bind (hC s) fun e s _ => pl_bind (h2 s) fun t s _ => pl_ite (Or.inr (hE [101, 108, 115, 101] (by simp [contL]))) (fun s => pl_bind (h2 s) fun u s _ => pl_ret _ s) (pl_ret _ s)) ?_
      refine pl_ite (Or.inl h0) (fun s => pl_bind (hC s) fun e s _ => pl_bind (h2 s) fun t s _ => pl_ret _ s) ?_
      exact pl_bind (pl_take (by decide) s) fun n s _ => pl_ite (Or.inr (hE [91] (by simp [contL]))) (fun s => pl_bind (hX s) fun i s _ => pl_bind (pl_must _ s) fun _ s _ => pl_bind (pl_must _ s) fun _ s _ => pl_bind (hX s) fun e s _ => pl_bind (pl_must _ s) fun _ s _ => pl_ret _ s) (pl_bind (pl_must _ s) fun _ s _ => pl_bind (hX s) fun e s _ => pl_bind (pl_must _ s) fun _ s _ => pl_ret _ s)
    · rw [pBlock]
      exact pl_bind (pl_must _ s) fun _ s1 _ => h3 _ s1
    · rw [pStmts]
      by_cases h0 : s.toks = []
      · intro a s' e
        obtain ⟨q, hq, ⟨n, rfl, hr⟩ | ⟨b, s1, rfl, hr⟩⟩ := P.bind_some e
        · cases hr
        · unfold pEat at hq
          rw [isOf_nil h0, if_neg (by simp)] at hq
          injection hq with hq; injection hq with e1 e2; subst e1 e2
          rw [if_neg (by simp)] at hr
          obtain ⟨q, hq, ⟨n, rfl, hr⟩ | ⟨x, s2, rfl, hr⟩⟩ := P.bind_some hr
          · cases hr
          · have := l1 _ _ _ hq
            rw [h0] at this
            simp at this
      · exact pl_ite (Or.inl h0) (fun s => pl_ret _ s) (pl_bind (h1 s) fun x s _ => h3 _ s)
theorem pl_decl (s : PS) : PLa E pDecl s := pl_lt plt_decl fun h0 => by
  unfold pDecl
  exact pl_bind (pl_pass h0) fun ty s _ => pl_bind (pl_take (by decide) s) fun n s _ => pl_if (fun s => pl_bind (pl_take (by decide) s) fun t s _ => pl_bind (pl_odd _ s) fun c s _ => pl_bind (pl_must _ s) fun _ s _ => pl_bind (pl_must _ s) fun _ s _ => pl_ret _ s)
    (pl_bind (pl_must _ s) fun _ s _ => pl_ret _ s) (ple_bind (ple_take2 _) fun t => ple_bind (ple_odd2 _) fun c => ple_bind (ple_must _) fun _ => ple_bind (ple_must _) fun _ => ple_ret _) (plt_bind (plt_must _ _) fun _ => ple_ret _)
where
  ple_take2 : ∀ ks, PLe (pTake ks) := fun ks s a s' h => by
    unfold pTake at h
    split at h
    · exact ple_pass _ _ _ h
    · injection h with h; cases h
  ple_odd2 : ∀ t, PLe (pOdd t) := fun t s a s' h => by injection h with h; injection h with _ h; subst h; exact Nat.le_refl _
end
end

/-! Plain: the program of two texts, one behind the other. -/
section
set_option linter.unusedVariables false
set_option linter.unusedSimpArgs false
open Go.RowKit

theorem isOf_one {t : List UInt8} {s : PS} (h : isOf [t] s = true) : (hd s).text = t ∧ ((hd s).kind == 2 || (hd s).kind == 5) = true := by
  unfold isOf at h
  rw [Bool.and_eq_true] at h
  exact ⟨by simpa using h.2, h.1⟩
theorem isOf_other {ts : List (List UInt8)} {s : PS} (h : isOf ts s = true) {x : List UInt8} (hx : ts.contains x = false) : isOf [x] s = false := by
  unfold isOf at h ⊢
  rw [Bool.and_eq_true] at h
  rw [Bool.eq_false_iff]
  intro h2
  rw [Bool.and_eq_true] at h2
  have : (hd s).text = x := by simpa using h2.2
  rw [this, hx] at h
  cases h.2
theorem isOf_name {s : PS} (h : (hd s).kind = 1) (x : List UInt8) : isOf [x] s = false := by unfold isOf; rw [h]; rfl
theorem stmt_start {f : Nat} {s s' : PS} {x : St} (h : pStmt f s = some (.ok x s')) : isOf [[114, 101, 97, 100], [105, 102], [119, 104, 105, 108, 101]] s = true ∨ (hd s).kind = 1 := by
  cases f with
  | zero => unfold pStmt at h; cases h
  | succ f =>
    rw [pStmt] at h
    have step : ∀ {t : List UInt8} {x y : P St}, ((pEat t).bind fun b => if b = true then x else y) s = some (.ok ‹St› s') → isOf [t] s = true ∨ y s = some (.ok ‹St› s') := by
      intro t x y h
      obtain ⟨q, hq, ⟨n, rfl, hr⟩ | ⟨b, s1, rfl, hr⟩⟩ := P.bind_some h
      · cases hr
      · unfold pEat at hq
        split at hq
        · exact Or.inl (by assumption)
        · injection hq with hq; injection hq with e1 e2; subst e1 e2
          exact Or.inr (by simpa using hr)
    have add : ∀ {t : List UInt8}, isOf [t] s = true → [[114, 101, 97, 100], [105, 102], [119, 104, 105, 108, 101]].contains t = true → isOf [[114, 101, 97, 100], [105, 102], [119, 104, 105, 108, 101]] s = true := by
      intro t h1 h2
      obtain ⟨h3, h4⟩ := isOf_one h1
      unfold isOf
      rw [h4, h3, h2]; rfl
    rcases step h with h1 | h
    · exact Or.inl (add h1 (by decide))
    · rcases step h with h1 | h
      · exact Or.inl (add h1 (by decide))
      · rcases step h with h1 | h
        · exact Or.inl (add h1 (by decide))
        · obtain ⟨q, hq, ⟨n, rfl, hr⟩ | ⟨b, s1, rfl, hr⟩⟩ := P.bind_some h
          · cases hr
          · unfold pTake at hq
            split at hq
            · rename_i hc; exact Or.inr (by simpa using hc)
            · injection hq with hq; cases hq
theorem decls_same (f : Nat) : ∀ acc s ds s1, pDecls f acc s = some (.ok ds s1) → ∃ r, ds = acc ++ r ∧ (r = [] → s1 = s) ∧ isOf typesL s1 = false := by
  induction f with
  | zero => intro acc s ds s1 h; unfold pDecls at h; cases h
  | succ f ih =>
    intro acc s ds s1 h
    rw [pDecls] at h
    simp only at h
    split at h
    · obtain ⟨q, hq, ⟨n, rfl, hr⟩ | ⟨d, s2, rfl, hr⟩⟩ := P.bind_some h
      · cases hr
      · obtain ⟨r, h1, h2, h3⟩ := ih _ _ _ _ hr
        exact ⟨d :: r, by rw [h1]; simp, (fun h => by cases h), h3⟩
    · rename_i hc
      injection h with h; injection h with h1 h; subst h1 h
      exact ⟨[], by simp, fun _ => rfl, by simpa using hc⟩
theorem body_same (f k : Nat) : ∀ acc s l s', pBody f k acc s = some (.ok l s') → ∃ r, l = acc ++ r ∧ s'.toks = [] ∧ (s.toks ≠ [] → r ≠ [] ∧ ∃ x s2, pStmt f s = some (.ok x s2)) ∧ (s.toks = [] → r = [] ∧ s' = s) := by
  induction k with
  | zero => intro acc s l s' h; unfold pBody at h; cases h
  | succ k ih =>
    intro acc s l s' h
    rw [pBody] at h
    simp only at h
    split at h
    · rename_i h0
      injection h with h; injection h with h1 h; subst h1 h
      exact ⟨[], by simp, h0, fun h => absurd h0 h, fun _ => ⟨rfl, rfl⟩⟩
    · rename_i h0
      obtain ⟨q, hq, ⟨n, rfl, hr⟩ | ⟨x, s2, rfl, hr⟩⟩ := P.bind_some h
      · cases hr
      · obtain ⟨r, h1, h2, _, _⟩ := ih _ _ _ _ hr
        exact ⟨x :: r, by rw [h1]; simp, h2, fun _ => ⟨by simp, x, s2, hq⟩, fun h => absurd h h0⟩
theorem decls_acc (f : Nat) : ∀ (c acc : List De) s r s1, pDecls f acc s = some (.ok r s1) → pDecls f (c ++ acc) s = some (.ok (c ++ r) s1) := by
  induction f with
  | zero => intro c acc s r s1 h; unfold pDecls at h; cases h
  | succ f ih =>
    intro c acc s r s1 h
    rw [pDecls] at h ⊢
    simp only at h ⊢
    split at h
    · rename_i hc; rw [if_pos hc]
      obtain ⟨q, hq, ⟨n, rfl, hr⟩ | ⟨d, s2, rfl, hr⟩⟩ := P.bind_some h
      · cases hr
      · unfold P.bind
        rw [hq]
        have := ih c _ _ _ _ hr
        rwa [← List.append_assoc] at this
    · rename_i hc; rw [if_neg hc]
      injection h with h; injection h with h1 h; subst h1 h
      rfl
theorem body_acc (f k : Nat) : ∀ (c acc : List St) s r s1, pBody f k acc s = some (.ok r s1) → pBody f k (c ++ acc) s = some (.ok (c ++ r) s1) := by
  induction k with
  | zero => intro c acc s r s1 h; unfold pBody at h; cases h
  | succ k ih =>
    intro c acc s r s1 h
    rw [pBody] at h ⊢
    simp only at h ⊢
    split at h
    · rename_i hc; rw [if_pos hc]
      injection h with h; injection h with h1 h; subst h1 h
      rfl
    · rename_i hc; rw [if_neg hc]
      obtain ⟨q, hq, ⟨n, rfl, hr⟩ | ⟨d, s2, rfl, hr⟩⟩ := P.bind_some h
      · cases hr
      · unfold P.bind
        rw [hq]
        have := ih c _ _ _ _ hr
        rwa [← List.append_assoc] at this
section
variable {E : List Tok}
theorem decls_app1 (f : Nat) : ∀ acc s ds s1, pDecls f acc s = some (.ok ds s1) → s1.toks ≠ [] → pDecls f acc (app E s) = some (.ok ds (app E s1)) := by
  induction f with
  | zero => intro acc s ds s1 h; unfold pDecls at h; cases h
  | succ f ih =>
    intro acc s ds s1 h hne
    rw [pDecls] at h ⊢
    simp only at h ⊢
    by_cases h0 : s.toks = []
    · rw [isOf_nil h0, if_neg (by simp)] at h
      injection h with h; injection h with h1 h; subst h1 h
      exact absurd h0 hne
    · rw [isOf_app h0]
      split at h
      · rename_i hc; rw [if_pos hc]
        obtain ⟨q, hq, ⟨n, rfl, hr⟩ | ⟨d, s2, rfl, hr⟩⟩ := P.bind_some h
        · cases hr
        · unfold P.bind
          rw [pl_decl _ _ _ hq]
          exact ih _ _ _ _ hr hne
      · rename_i hc; rw [if_neg hc]
        injection h with h; injection h with h1 h; subst h1 h
        rfl
theorem decls_app2 (f : Nat) : ∀ acc s ds s1, pDecls f acc s = some (.ok ds s1) → s1.toks = [] → ∀ K, ∃ K', K ≤ K' ∧ pDecls (f + K) acc (app E s) = pDecls K' ds (app E s1) := by
  induction f with
  | zero => intro acc s ds s1 h; unfold pDecls at h; cases h
  | succ f ih =>
    intro acc s ds s1 h hne K
    rw [pDecls] at h
    simp only at h
    by_cases h0 : s.toks = []
    · rw [isOf_nil h0, if_neg (by simp)] at h
      injection h with h; injection h with h1 h; subst h1 h
      exact ⟨f + 1 + K, by omega, rfl⟩
    · split at h
      · rename_i hc
        obtain ⟨q, hq, ⟨n, rfl, hr⟩ | ⟨d, s2, rfl, hr⟩⟩ := P.bind_some h
        · cases hr
        · obtain ⟨K', h1, h2⟩ := ih _ _ _ _ hr hne K
          refine ⟨K', h1, ?_⟩
          rw [show f + 1 + K = f + K + 1 by omega, pDecls]
          simp only
          rw [isOf_app h0, if_pos hc, ← h2]
          unfold P.bind
          rw [pl_decl _ _ _ hq]
      · injection h with h; injection h with h1 h; subst h1 h
        exact absurd hne h0
theorem body_app (hE : NEh E) (f k : Nat) : ∀ acc s l s', pBody f k acc s = some (.ok l s') → ∀ K, ∃ K', K ≤ K' ∧ pBody f (k + K) acc (app E s) = pBody f K' l (app E s') := by
  induction k with
  | zero => intro acc s l s' h; unfold pBody at h; cases h
  | succ k ih =>
    intro acc s l s' h K
    rw [pBody] at h
    simp only at h
    split at h
    · injection h with h; injection h with h1 h; subst h1 h
      exact ⟨k + 1 + K, by omega, rfl⟩
    · rename_i h0
      obtain ⟨q, hq, ⟨n, rfl, hr⟩ | ⟨d, s2, rfl, hr⟩⟩ := P.bind_some h
      · cases hr
      · obtain ⟨K', h1, h2⟩ := ih _ _ _ _ hr K
        refine ⟨K', h1, ?_⟩
        rw [show k + 1 + K = k + K + 1 by omega, pBody]
        simp only
        rw [if_neg (show ¬ (app E s).toks = [] from fun e => h0 (List.append_eq_nil_iff.1 e).1), ← h2]
        unfold P.bind
        rw [(locS hE f).1 _ _ _ hq]
end
theorem sm_whole {f g : Nat} (h : f ≤ g) : SM (pWhole f) (pWhole g) := sm_bind (sm_decls f g h _) fun ds => sm_bind (sm_body f g h f g h _) fun b => sm_ret _
theorem whole_split {f : Nat} {s st : PS} {p : Pg} (h : pWhole f s = some (.ok p st)) : ∃ s1, pDecls f [] s = some (.ok p.decls s1) ∧ pBody f f [] s1 = some (.ok p.body st) := by
  obtain ⟨q, hq, ⟨n, rfl, hr⟩ | ⟨ds, s1, rfl, hr⟩⟩ := P.bind_some h
  · cases hr
  · obtain ⟨q, hq2, ⟨n, rfl, hr⟩ | ⟨b, s2, rfl, hr⟩⟩ := P.bind_some hr
    · cases hr
    · injection hr with hr; injection hr with h1 h2; subst h1 h2
      exact ⟨s1, hq, hq2⟩
theorem join_head {f : Nat} {ts E : List Tok} {p : Pg} {st : PS} (h : pWhole f (ps0 ts) = some (.ok p st)) (hE : E.map kt = ts.map kt) : NEh E := by
  have hs : Sim (stOf E) (ps0 ts) := hE
  intro x hx
  rw [hs.isOf]
  obtain ⟨s1, h1, h2⟩ := whole_split h
  by_cases ht : isOf typesL (ps0 ts) = true
  · refine isOf_other ht ?_
    have : (contL.all fun x => !typesL.contains x) = true := by decide +kernel
    simpa using List.all_eq_true.1 this x hx
  · have h3 : s1 = ps0 ts := by
      cases f with
      | zero => unfold pDecls at h1; cases h1
      | succ f =>
        rw [pDecls] at h1
        simp only at h1
        rw [if_neg ht] at h1
        injection h1 with h1; injection h1 with _ h1; exact h1.symm
    subst h3
    by_cases h0 : (ps0 ts).toks = []
    · exact isOf_nil h0 _
    · obtain ⟨r, _, _, h4, _⟩ := body_same _ _ _ _ _ _ h2
      obtain ⟨_, x', s2, h5⟩ := h4 h0
      rcases stmt_start h5 with h6 | h6
      · refine isOf_other h6 ?_
        have : (contL.all fun x => ![[114, 101, 97, 100], [105, 102], [119, 104, 105, 108, 101]].contains x) = true := by decide +kernel
        simpa using List.all_eq_true.1 this x hx
      · exact isOf_name h6 x
/-- The program of two lists of tokens, one behind the other. -/
theorem whole_join {fa fb : Nat} {ta tb E : List Tok} {p q : Pg} {sa sb : PS} (ha : pWhole fa (ps0 ta) = some (.ok p sa)) (hb : pWhole fb (ps0 tb) = some (.ok q sb)) (hE : E.map kt = tb.map kt) (hc : q.decls = [] ∨ p.body = [])
    (F : Nat) (r : Res Pg) (hr : pWhole F (ps0 (ta ++ E)) = some r) : ∃ st, r = .ok ⟨p.decls ++ q.decls, p.body ++ q.body⟩ st := by
  have hN := join_head hb hE
  obtain ⟨s1, a1, a2⟩ := whole_split ha
  obtain ⟨t1, b1, b2⟩ := whole_split hb
  obtain ⟨G, hG1, hG2⟩ : ∃ G, fa + fb ≤ G ∧ F ≤ G := ⟨fa + fb + F, by omega, by omega⟩
  have key : ∃ st, pWhole G (ps0 (ta ++ E)) = some (.ok ⟨p.decls ++ q.decls, p.body ++ q.body⟩ st) := by
    have fin : ∀ (t2 t3 : PS), pDecls G [] (ps0 (ta ++ E)) = some (.ok (p.decls ++ q.decls) t2) → pBody G G [] t2 = some (.ok (p.body ++ q.body) t3) → ∃ st, pWhole G (ps0 (ta ++ E)) = some (.ok ⟨p.decls ++ q.decls, p.body ++ q.body⟩ st) := by
      intro t2 t3 h1 h2
      refine ⟨t3, ?_⟩
      unfold pWhole P.bind
      rw [h1]
      simp only
      rw [h2]
      rfl
    by_cases h0 : s1.toks = []
    · obtain ⟨r1, e1, _, _, e4⟩ := body_same _ _ _ _ _ _ a2
      have hpb : p.body = [] := by rw [e1, (e4 h0).1]; rfl
      obtain ⟨K', k1, k2⟩ := decls_app2 (E := E) fa _ _ _ _ a1 h0 fb
      have hs : Sim (ps0 tb) (app E s1) := by
        show tb.map kt = (s1.toks ++ E).map kt
        rw [h0, List.nil_append, hE]
      obtain ⟨r', c1, c2⟩ := sm_decls fb K' k1 [] _ _ _ hs b1
      cases r' with
      | bad n => exact c2.elim
      | ok ds' t2 =>
        obtain ⟨rfl, c3⟩ := c2
        have c4 := decls_acc K' p.decls [] _ _ _ c1
        rw [List.append_nil, ← k2] at c4
        obtain ⟨r', c5, c6⟩ := sm_decls (fa + fb) G hG1 [] _ (ps0 (ta ++ E)) _ (show Sim (app E (ps0 ta)) (ps0 (ta ++ E)) from rfl) c4
        cases r' with
        | bad n => exact c6.elim
        | ok ds' t4 =>
          obtain ⟨rfl, c7⟩ := c6
          obtain ⟨r', c8, c9⟩ := sm_body fb G (by omega) fb G (by omega) [] _ _ _ (c3.trans c7) b2
          cases r' with
          | bad n => exact c9.elim
          | ok l' t5 =>
            obtain ⟨rfl, _⟩ := c9
            exact fin t4 t5 c5 (by rw [hpb]; exact c8)
    · obtain ⟨r1, e1, _, e3, _⟩ := body_same _ _ _ _ _ _ a2
      have hpb : p.body ≠ [] := by rw [e1]; simpa using (e3 h0).1
      have hqd : q.decls = [] := by rcases hc with h | h; exact h; exact absurd h hpb
      obtain ⟨r2, d1, d2, _⟩ := decls_same _ _ _ _ _ b1
      have ht1 : t1 = ps0 tb := d2 (by rw [hqd] at d1; simpa using d1.symm)
      subst ht1
      have c0 := decls_app1 (E := E) fa _ _ _ _ a1 h0
      obtain ⟨r', c1, c2⟩ := sm_decls fa G (by omega) [] _ (ps0 (ta ++ E)) _ (show Sim (app E (ps0 ta)) (ps0 (ta ++ E)) from rfl) c0
      cases r' with
      | bad n => exact c2.elim
      | ok ds' t2 =>
        obtain ⟨rfl, c3⟩ := c2
        obtain ⟨r', c4, c5⟩ := sm_body fa G (by omega) fa fa (Nat.le_refl _) [] s1 s1 _ rfl a2
        cases r' with
        | bad n => exact c5.elim
        | ok l' sa2 =>
          obtain ⟨rfl, c6⟩ := c5
          obtain ⟨_, _, e5, _, _⟩ := body_same _ _ _ _ _ _ c4
          obtain ⟨K', k1, k2⟩ := body_app (E := E) hN G fa _ _ _ _ c4 fb
          have hs : Sim (ps0 tb) (app E sa2) := by
            show tb.map kt = (sa2.toks ++ E).map kt
            rw [e5, List.nil_append, hE]
          obtain ⟨r', c7, c8⟩ := sm_body fb G (by omega) fb K' k1 [] _ _ _ hs b2
          cases r' with
          | bad n => exact c8.elim
          | ok l' t5 =>
            obtain ⟨rfl, _⟩ := c8
            have c9 := body_acc G K' p.body [] _ _ _ c7
            rw [List.append_nil, ← k2] at c9
            obtain ⟨r', c10, c11⟩ := sm_body G G (Nat.le_refl _) (fa + fb) G hG1 [] _ _ _ c3 c9
            cases r' with
            | bad n => exact c11.elim
            | ok l' t6 =>
              obtain ⟨rfl, _⟩ := c11
              exact fin t2 t6 (by rw [hqd, List.append_nil]; exact c1) c10
  obtain ⟨st, hk⟩ := key
  obtain ⟨r', h1, h2⟩ := sm_whole hG2 _ _ _ (show Sim (ps0 (ta ++ E)) (ps0 (ta ++ E)) from rfl) hr
  rw [hk] at h1
  injection h1 with h1
  subst h1
  cases r with
  | bad n => exact h2.elim
  | ok a s => exact ⟨s, by rw [h2.1]⟩
end
end Go.Proofs.YtokdcfehnhifhaaGreatDoor
