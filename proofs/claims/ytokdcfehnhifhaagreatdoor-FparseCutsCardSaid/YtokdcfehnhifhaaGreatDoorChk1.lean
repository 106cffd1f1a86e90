/- Which texts are numbers, for the program's Right. What is right of an expression alone; of expressions that are none. What is right of an expression, and of a statement, alone. Bounds of reads; statements alone. -/
import Derived.Test.YtokdcfehnhifhaaGreatDoorPar1
import Derived.Test.YtokdcfehnhifhaaGreatDoorLex
import Derived.Shelf.Strings.SlTrimAscii
namespace Go.Proofs.YtokdcfehnhifhaaGreatDoor
/-! Which texts are numbers, for the program's Right. -/
section
set_option linter.unusedVariables false
set_option linter.unusedSimpArgs false
open Go.RowKit

/-- Digits, at least one. -/
def isDg (c : UInt8) : Bool := decide (48 ≤ c.toNat ∧ c.toNat ≤ 57)
def digs (l : List UInt8) : Bool := decide (l ≠ []) && l.all isDg
def digL : List UInt8 := [48, 49, 50, 51, 52, 53, 54, 55, 56, 57]
theorem digL_has (c : UInt8) : digL.contains c = isDg c := by
  have h : ∀ n : Fin 256, digL.contains (UInt8.ofNat n) = isDg (UInt8.ofNat n) := by decide +kernel
  have := h ⟨c.toNat, c.toNat_lt⟩
  simpa using this
theorem dropWhile_nil {α : Type} (p : α → Bool) : ∀ l : List α, l.dropWhile p = [] ↔ l.all p = true
  | [] => by simp
  | a :: l => by
    by_cases h : p a = true
    · simp [h, dropWhile_nil p l]
    · simp [h]
theorem trim_nil (l : List UInt8) : (Lib.trimS l digL = []) ↔ l.all isDg = true := by
  unfold Lib.trimS Lib.trimLeftS Lib.trimRightS
  simp only [digL_has]
  rw [dropWhile_nil, List.all_reverse]
  constructor
  · intro h
    have h2 : (l.reverse.dropWhile isDg).all isDg = true := h
    cases hd : l.reverse.dropWhile isDg with
    | nil => have := (dropWhile_nil isDg l.reverse).1 hd; rwa [List.all_reverse] at this
    | cons a r =>
      exfalso
      rw [hd] at h2
      have hh : isDg ((l.reverse.dropWhile isDg).head (by rw [hd]; simp)) = false := by
        have := List.head_dropWhile_not isDg (show l.reverse.dropWhile isDg ≠ [] by rw [hd]; simp)
        simpa using this
      simp only [hd, List.head_cons] at hh
      simp [hh] at h2
  · intro h
    have : l.reverse.dropWhile isDg = [] := (dropWhile_nil isDg l.reverse).2 (by rw [List.all_reverse]; exact h)
    show (l.reverse.dropWhile isDg).all isDg = true
    rw [this]; rfl
theorem trimDig_calls (t : List UInt8) (w : World) (hs : t.length ≤ maxLen) :
    Calls Tryz.prog 172 #[.string ⟨t.toArray⟩, .string ⟨digL.toArray⟩] w fun e w' => e = .returned (.string ⟨(Lib.trimS t digL).toArray⟩) ∧ Below w.heap.size w w' := by
  have h := Any.strings_Trim_laid Tryz.lays160 (by kernel_rfl) ⟨t.toArray⟩ ⟨digL.toArray⟩ w (by simpa [ByteArray.size, maxLen] using hs) (by decide) (fun j b hb => by
    have : b ∈ digL := List.mem_of_getElem? (by simpa using hb)
    have hx := digL_has b
    rw [List.contains_iff_mem.2 this] at hx
    simp only [isDg] at hx
    have := of_decide_eq_true hx.symm
    omega)
  simp only [List.toList_toArray] at h
  exact h
theorem string_nil (l : List UInt8) : ((⟨l.toArray⟩ : ByteArray) == ⟨#[]⟩) = decide (l = []) := by
  show (l.toArray == #[]) = _
  cases l <;> rfl
theorem dig1_calls (t : List UInt8) (w : World) (hs : t.length ≤ maxLen) :
    Calls Tryz.prog 171 #[.string ⟨t.toArray⟩] w fun e w' => e = .returned (.bool (digs t)) ∧ Below w.heap.size w w' := by
  by_cases ht : t = []
  · subst ht
    go_enter Tryz.func171, Tryz.ntmps171
    go_wp2_with fail
    go_returns
    exact ⟨rfl, Below.refl _ _⟩
  · have e : digs t = decide (Lib.trimS t digL = []) := by
      rw [Bool.eq_iff_iff]; simp [digs, ht, trim_nil]
    have E := Lib.hid e
    clear e
    go_enter Tryz.func171, Tryz.ntmps171
    go_wp2_with fail
    refine (trimDig_calls t _ hs).mono ?_
    rintro e w1 ⟨rfl, hb⟩
    have Hb := Lib.hid hb
    have e := E.out
    generalize Lib.trimS t digL = u at e ⊢
    have E2 := Lib.hid e
    clear e hb
    by_cases hu : u = []
    · subst hu
      go_wp2_with fail
      go_returns
      exact ⟨by rw [E2.out]; simp [ht], Hb.out⟩
    · go_wp2_with fail
      go_returns
      exact ⟨by rw [E2.out]; simp [hu], Hb.out⟩
theorem below_drewN (w : World) (n : Nat) : Below w.heap.size w (w.drewN n) := ⟨rfl, rfl, rfl, Nat.le_refl _, fun _ _ => rfl⟩
/-- The text's two parts at the first point. -/
def cutPt (l : List UInt8) : List UInt8 × List UInt8 × Bool :=
  if Lib.indexByte l 46 < 0 then (l, [], false) else (l.take (Lib.indexByte l 46).toNat, l.drop ((Lib.indexByte l 46).toNat + 1), true)
theorem cutS_calls (t : List UInt8) (w : World) (hs : t.length ≤ maxLen) :
    Calls Tryz.prog 180 #[.string ⟨t.toArray⟩, .string ⟨#[46]⟩] w fun e w' => e = .returned (.tuple #[.string ⟨(cutPt t).1.toArray⟩, .string ⟨(cutPt t).2.1.toArray⟩, .bool (cutPt t).2.2]) ∧ Below w.heap.size w w' := by
  unfold maxLen at hs
  go_enter Tryz.func180, Tryz.ntmps180
  go_wp2_with fail
  refine (Tryz.stringslite_Index_one _ _ _).mono ?_
  rintro e w1 ⟨rfl, rfl⟩
  simp only [List.toList_toArray]
  by_cases hn : Lib.indexByte t 46 < 0
  · have e : cutPt t = (t, [], false) := by unfold cutPt; rw [if_pos hn]
    have E := Lib.hid e
    have hq : ¬ (Lib.indexByte t 46 ≥ 0) := by omega
    have hq2 : ¬ (0 ≤ Lib.indexByte t 46) := by omega
    clear e
    generalize Lib.indexByte t 46 = n at *
    go_wp2_with fail
    go_returns
    exact ⟨by rw [E.out]; rfl, Below.refl _ _⟩
  · have e : cutPt t = (t.take (Lib.indexByte t 46).toNat, t.drop ((Lib.indexByte t 46).toNat + 1), true) := by unfold cutPt; rw [if_neg hn]
    obtain ⟨n, hN⟩ : ∃ n : Nat, Lib.indexByte t 46 = n := ⟨(Lib.indexByte t 46).toNat, by omega⟩
    have hlt := (List.getElem?_eq_some_iff.1 (Lib.indexByte_some hN).1).1
    rw [hN] at e ⊢
    simp only [Int.toNat_natCast] at e
    have E := Lib.hid e
    clear e hn
    have s1 : (⟨t.toArray⟩ : ByteArray).size = t.length := by simp [ByteArray.size]
    have hge : (n : Int) ≥ 0 := by omega
    have hge' : (0 : Int) ≤ n := by omega
    have hle : (n : Int) ≤ t.length := by omega
    have hlt' : (n : Int) < t.length := by omega
    have hle1 : (n : Int) + 1 ≤ t.length := by omega
    have hw : wrap64 ((n : Int) + 1) = n + 1 := by unfold wrap64; omega
    have hw2 : IntKind.i64.wrap ((n : Int) + 1) = n + 1 := IntWalk.i64_in _ (by omega)
    go_wp2_with fail
    go_quiet (fail)
    go_wp2_with fail
    go_returns
    have x1 : (⟨t.toArray⟩ : ByteArray).extract 0 n = ⟨(t.take n).toArray⟩ := by rw [Lib.extract_mk, List.drop_zero, Nat.sub_zero]
    have x2 : (⟨t.toArray⟩ : ByteArray).extract (n + 1) t.length = ⟨(t.drop (n + 1)).toArray⟩ := by rw [Lib.extract_mk, List.take_of_length_le (by simp)]
    exact ⟨by rw [E.out, x1, x2]; rfl, below_drewN _ _⟩
theorem cut_calls (t : List UInt8) (w : World) (hs : t.length ≤ maxLen) :
    Calls Tryz.prog 170 #[.string ⟨t.toArray⟩, .string ⟨#[46]⟩] w fun e w' => e = .returned (.tuple #[.string ⟨(cutPt t).1.toArray⟩, .string ⟨(cutPt t).2.1.toArray⟩, .bool (cutPt t).2.2]) ∧ Below w.heap.size w w' := by
  go_enter Tryz.func170, Tryz.ntmps170
  go_wp2_with fail
  refine (cutS_calls t _ hs).mono ?_
  rintro e w1 ⟨rfl, hb⟩
  have Hb := Lib.hid hb
  clear hb
  go_wp2_with fail
  go_returns
  exact ⟨rfl, Hb.out⟩
def isNum (t : List UInt8) : Bool := digs (cutPt t).1 && (!(cutPt t).2.2 || digs (cutPt t).2.1)
theorem cutPt_len (t : List UInt8) : (cutPt t).1.length ≤ t.length ∧ (cutPt t).2.1.length ≤ t.length := by
  unfold cutPt
  split
  · simp
  · simp; omega
theorem isNumber_calls (t : List UInt8) (w : World) (hs : t.length ≤ maxLen) :
    Calls Tryz.prog 152 #[.string ⟨t.toArray⟩] w fun e w' => e = .returned (.bool (isNum t)) ∧ Below w.heap.size w w' := by
  unfold maxLen at hs
  have hl := cutPt_len t
  have e : isNum t = (digs (cutPt t).1 && (!(cutPt t).2.2 || digs (cutPt t).2.1)) := rfl
  have E := Lib.hid e
  clear e
  go_enter Tryz.func152, Tryz.ntmps152
  go_wp2_with fail
  refine (cut_calls t _ (by unfold maxLen; omega)).mono ?_
  rintro e w1 ⟨rfl, hb⟩
  have Hb := Lib.hid hb
  have e := E.out
  clear hb E
  generalize cutPt t = c at *
  obtain ⟨a, b, two⟩ := c
  simp only at hl e
  have E := Lib.hid e
  clear e
  have h1 : a.length ≤ maxLen := by unfold maxLen; omega
  have h2 : b.length ≤ maxLen := by unfold maxLen; omega
  go_wp2_with fail
  refine (dig1_calls a _ h1).mono ?_
  rintro e w2 ⟨rfl, hb⟩
  have Hb2 := Lib.hid (below2 Hb.out hb)
  clear hb
  have e := E.out
  generalize digs a = p at e ⊢
  cases p with
  | false =>
    have E := Lib.hid e
    clear e
    go_wp2_with fail
    go_returns
    exact ⟨by rw [E.out]; rfl, Hb2.out⟩
  | true =>
    cases two with
    | false =>
      have E := Lib.hid e
      clear e
      go_wp2_with fail
      go_returns
      exact ⟨by rw [E.out]; rfl, Hb2.out⟩
    | true =>
      have E := Lib.hid e
      clear e
      go_wp2_with fail
      refine (dig1_calls b _ h2).mono ?_
      rintro e w3 ⟨rfl, hb⟩
      have Hb3 := Lib.hid (below2 Hb2.out hb)
      clear hb
      go_wp2_with fail
      go_returns
      exact ⟨by rw [E.out]; rfl, Hb3.out⟩
end

/-! What is right of an expression alone; of expressions that are none. -/
section
set_option linter.unusedVariables false
set_option linter.unusedSimpArgs false
open Go.RowKit

theorem ExC.form {ok : Nat → Prop} {w : World} {e : Ex} {cs : List Value} (h : ExC ok w e cs) : ∃ A c kc, cs = [.int .i64 e.op, .string ⟨e.text.toArray⟩, .int .i64 e.ty, .slice A e.kids.length c] ∧ RdK ok w (.slice A e.kids.length c) e.kids.length 4 kc ∧ ExsC ok w e.kids kc := by
  obtain ⟨op, t, ty, kids⟩ := e
  simp only [ExC] at h
  obtain ⟨kv, kc, rfl, h1, h2⟩ := h
  obtain ⟨A, c, rfl⟩ := h1.slice
  exact ⟨A, c, kc, rfl, h1, h2⟩
/-- An element of a row of expressions. -/
theorem ExsC.elem {ok : Nat → Prop} {w : World} {v : Value} {l : List Ex} {cs : List Value} (hv : RdK ok w v l.length 4 cs) (hl : ExsC ok w l cs) (k : Nat) (hk : k < l.length) :
    ∃ b off c A m, v = .slice (some ⟨b, off, none⟩) l.length c ∧ l.length ≤ c ∧ b < w.heap.size ∧ ok b ∧ w.cell? ⟨b, off + k * 4, none⟩ = some (.int .i64 l[k].op) ∧ w.cell? ⟨b, off + k * 4 + 1, none⟩ = some (.string ⟨l[k].text.toArray⟩) ∧
      w.cell? ⟨b, off + k * 4 + 2, none⟩ = some (.int .i64 l[k].ty) ∧ w.cell? ⟨b, off + k * 4 + 3, none⟩ = some (.slice A l[k].kids.length m) ∧ ExC ok w l[k] [.int .i64 l[k].op, .string ⟨l[k].text.toArray⟩, .int .i64 l[k].ty, .slice A l[k].kids.length m] := by
  obtain ⟨b, off, c, hsl, hle, ho, hlt, hc⟩ := hv.pos (by omega)
  obtain ⟨a, ha, hg⟩ := hl.get k hk
  obtain ⟨A, m, kc, rfl, h1, h2⟩ := ha.form
  refine ⟨b, off, c, A, m, hsl, hle, hlt, ho, ?_, ?_, ?_, ?_, ha⟩
  · exact hc _ _ (hg 0 _ rfl)
  · exact hc _ _ (hg 1 _ rfl)
  · exact hc _ _ (hg 2 _ rfl)
  · exact hc _ _ (hg 3 _ rfl)
def idxOf (p : Ex → Bool) (l : List Ex) : Int := match l.findIdx? p with | some k => k | none => -1
theorem idxOf_yes {p : Ex → Bool} {l : List Ex} {k : Nat} (hk : k < l.length) (h1 : ∀ j (hj : j < k), p (l[j]'(by omega)) = false) (h2 : p l[k] = true) : idxOf p l = k := by
  have : l.findIdx? p = some k := by
    rw [List.findIdx?_eq_some_iff_getElem]
    exact ⟨hk, h2, fun j hj => by simpa using h1 j hj⟩
  simp [idxOf, this]
theorem idxOf_no {p : Ex → Bool} {l : List Ex} (h1 : ∀ j (hj : j < l.length), p l[j] = false) : idxOf p l = -1 := by
  have : l.findIdx? p = none := by
    rw [List.findIdx?_eq_none_iff]
    intro x hx
    obtain ⟨j, hj, rfl⟩ := List.mem_iff_getElem.1 hx
    exact h1 j hj
  simp [idxOf, this]
theorem idxOf_ge (p : Ex → Bool) (l : List Ex) : decide (idxOf p l ≥ 0) = l.any p := by
  cases h : l.findIdx? p with
  | none =>
    rw [List.findIdx?_eq_none_iff] at h
    have e : l.any p = false := by rw [List.any_eq_false]; intro x hx; simp [h x hx]
    simp [idxOf, List.findIdx?_eq_none_iff.2 h, e]
  | some k =>
    obtain ⟨hk, h2, _⟩ := List.findIdx?_eq_some_iff_getElem.1 h
    have e : l.any p = true := List.any_eq_true.2 ⟨_, List.getElem_mem hk, h2⟩
    simp [idxOf, h, e]
/-- What a function handed over answers. -/
def Asks (g : FuncId) (p : Ex → Bool) : Prop := ∀ (e : Ex) (A : Option Addr) (c : Nat) (W : World),
  Calls Tryz.prog g #[.agg #[.int .i64 e.op, .string ⟨e.text.toArray⟩, .int .i64 e.ty, .slice A e.kids.length c]] W fun r W' => r = .returned (.bool (p e)) ∧ Below W.heap.size W W'
theorem indexE_calls (g : FuncId) (p : Ex → Bool) (hg : Asks g p) (hc : ∀ a W, (callFunc g a).run Tryz.prog W = .ok (.enter g a) W) (ok : Nat → Prop) (v : Value) (l : List Ex) (cs : List Value) (w : World) (hv : RdK ok w v l.length 4 cs) (hl : ExsC ok w l cs) :
    Calls Tryz.prog 151 #[v, .func (.func g) #[] #[]] w fun e w' => e = .returned (.int .i64 (idxOf p l)) ∧ Below w.heap.size w w' := by
  have Hv := Lib.hid hv
  have Hl := Lib.hid hl
  have Hg := Lib.hid hg
  have hn := hv.le
  obtain ⟨A, c, rfl⟩ := hv.slice
  clear hv hl hg
  go_enter Tryz.func151, Tryz.ntmps151
  go_wp2_with fail
  go_loopw [8] (fun k W => ∃ q : Nat, k = .int .i64 q ∧ q ≤ l.length ∧ Below w.heap.size w W ∧ ∀ j (hj : j < q) (hq : q ≤ l.length), p (l[j]'(by omega)) = false) (fun k _ => l.length - (intOf k).toNat)
  case atStart => exact ⟨0, rfl, by omega, Below.refl _ _, fun j hj => by omega⟩
  case round =>
    obtain ⟨q, rfl, hq, hb, hno⟩ := hrel
    have Hb := Lib.hid hb
    have Hno := Lib.hid hno
    clear hb hno
    by_cases hlt : q < l.length
    · obtain ⟨b, off, c', A1, m1, hsl, hle, hbl, ho, g0, g1, g2, g3, he⟩ := Hl.out.elem Hv.out q hlt
      injection hsl with hA hn' hc'
      subst hA hc'
      rw [← (bcell Hb.out).1 b _ hbl] at g0 g1 g2 g3
      clear he hn' ho
      generalize hx : l[q] = x at *
      have Hx := Lib.hid hx
      clear hx
      go_wp2_with fail
      refine (Hg.out x A1 m1 _).mono ?_
      rintro e w2 ⟨rfl, hb2⟩
      have Hb2 := Lib.hid (below2 Hb.out hb2)
      clear hb2
      generalize hp : p x = r
      have Hp := Lib.hid hp
      clear hp
      cases r with
      | true =>
        go_wp2_with fail
        go_ret
        refine ⟨?_, Hb2.out⟩
        rw [idxOf_yes hlt (fun j hj => Hno.out j hj hq) (by rw [Hx.out]; exact Hp.out)]
        rfl
      | false =>
        go_wp2_with fail
        go_roundw
        case rel =>
          refine ⟨q + 1, by go_num, by omega, Hb2.out, fun j hj hq' => ?_⟩
          rcases Nat.lt_or_ge j q with h | h
          · exact Hno.out j h hq
          · obtain rfl : j = q := by omega
            rw [Hx.out]; exact Hp.out
        case measure => simp [intOf]; omega
    · obtain rfl : q = l.length := by omega
      go_wp2_with fail
      go_ret
      exact ⟨by rw [idxOf_no fun j hj => Hno.out j hj (Nat.le_refl _)]; rfl, Hb.out⟩
theorem containsE_calls (g : FuncId) (p : Ex → Bool) (hg : Asks g p) (hc : ∀ a W, (callFunc g a).run Tryz.prog W = .ok (.enter g a) W) (ok : Nat → Prop) (v : Value) (l : List Ex) (cs : List Value) (w : World) (hv : RdK ok w v l.length 4 cs) (hl : ExsC ok w l cs) :
    Calls Tryz.prog 123 #[v, .func (.func g) #[] #[]] w fun e w' => e = .returned (.bool (l.any p)) ∧ Below w.heap.size w w' := by
  have Hv := Lib.hid hv
  have Hl := Lib.hid hl
  have Hg := Lib.hid hg
  have Hc := Lib.hid hc
  obtain ⟨A, c, rfl⟩ := hv.slice
  clear hv hl hg hc
  go_enter Tryz.func123, Tryz.ntmps123
  go_wp2_with fail
  refine (indexE_calls g p Hg.out Hc.out ok _ l cs _ Hv.out Hl.out).mono ?_
  rintro e w2 ⟨rfl, hb2⟩
  have Hb2 := Lib.hid hb2
  clear hb2
  have hi := idxOf_ge p l
  have Hi := Lib.hid hi
  clear hi
  generalize idxOf p l = i at *
  go_wp2_with fail
  go_returns
  refine ⟨?_, Hb2.out⟩
  rw [← Hi.out]; rfl
end

/-! What is right of an expression, and of a statement, alone. -/
section
set_option linter.unusedVariables false
set_option linter.unusedSimpArgs false
open Go.RowKit

def noneB (e : Ex) : Bool := decide (e.op = 0) && decide (e.text = []) && decide (e.ty = 0) && decide (e.kids.length = 0)
theorem someE_asks : Asks 150 (fun e => !noneB e) := by
  rintro ⟨op, t, ty, kids⟩ A c w
  simp only [Ex.op, Ex.text, Ex.ty, Ex.kids]
  generalize hn : kids.length = n
  have Hn := Lib.hid hn
  clear hn
  go_enter Tryz.func150, Tryz.ntmps150
  go_wp2
  all_goals go_returns
  all_goals
    refine ⟨?_, by go_grown⟩
    have := Hn.out
    simp_all [noneB, Ex.op, Ex.text, Ex.ty, Ex.kids]
    try (by_cases h0 : n = 0 <;> simp [h0] <;> omega)
theorem noOp_asks : Asks 124 (fun e => decide (e.op = 0)) := by
  rintro ⟨op, t, ty, kids⟩ A c w
  simp only [Ex.op, Ex.text, Ex.ty, Ex.kids]
  go_enter Tryz.func124, Tryz.ntmps124
  go_wp2
  all_goals go_returns
  all_goals
    refine ⟨?_, by go_grown⟩
    rfl
theorem none_calls (ok : Nat → Prop) (v : Value) (l : List Ex) (cs : List Value) (w : World) (hv : RdK ok w v l.length 4 cs) (hl : ExsC ok w l cs) :
    Calls Tryz.prog 122 #[v] w fun e w' => e = .returned (.bool (l.all noneB)) ∧ Below w.heap.size w w' := by
  have Hv := Lib.hid hv
  have Hl := Lib.hid hl
  obtain ⟨A, c, rfl⟩ := hv.slice
  clear hv hl
  go_enter Tryz.func122, Tryz.ntmps122
  go_wp2_with fail
  refine (containsE_calls _ _ someE_asks (fun a W => by kernel_rfl) ok _ l cs _ Hv.out Hl.out).mono ?_
  rintro e w2 ⟨rfl, hb2⟩
  have Hb2 := Lib.hid hb2
  clear hb2
  go_wp2_with fail
  go_returns
  refine ⟨?_, Hb2.out⟩
  show Ending.returned (.bool (!(l.any fun e => !noneB e))) = _
  rw [List.any_eq_not_all_not]
  simp
def aloneB (op : Int) (t : List UInt8) (ty : Int) (n : Int) : Bool :=
  if op = 1 then decide (n = 0) && decide (ty = 0) && isNum t
  else if op = 2 then decide (n = 0) && decide (ty = 0) && isName t
  else if op = 3 then decide (n = 1) && decide (ty = 0) && isName t
  else if op = 4 ∨ op = 5 ∨ op = 6 ∨ op = 20 then decide (n = 1) && decide (ty = 0) && t.isEmpty
  else if op = 7 then decide (n = 1) && t.isEmpty && decide (1 ≤ ty) && decide (ty ≤ 3)
  else decide (8 ≤ op) && decide (op ≤ 19) && decide (n = 2) && decide (ty = 0) && t.isEmpty
theorem isNameT_calls (t : List UInt8) (w : World) (hs : t.length ≤ maxLen) :
    Calls Tryz.prog 39 #[.string ⟨t.toArray⟩] w fun e w' => e = .returned (.bool (isName t)) ∧ Below w.heap.size w w' :=
  isName_calls ⟨t.toArray⟩ w (by simpa [ByteArray.size] using hs)
set_option maxHeartbeats 4000000 in
theorem alone_calls (op ty : Int) (t : List UInt8) (A : Option Addr) (n c : Nat) (w : World) (ht : t.length ≤ maxLen) :
    Calls Tryz.prog 127 #[.agg #[.int .i64 op, .string ⟨t.toArray⟩, .int .i64 ty, .slice A n c]] w fun e w' => e = .returned (.bool (aloneB op t ty n)) ∧ Below w.heap.size w w' := by
  have Ht := Lib.hid ht
  clear ht
  by_cases h1 : op = 1
  · subst h1
    go_enter Tryz.func127, Tryz.ntmps127
    go_wp2_with fail
    go_quiet (fail)
    go_wp2_with (first | (go_at_call 152; refine (isNumber_calls t _ Ht.out).mono ?_; rintro e w2 ⟨rfl, hb2⟩; have Hb2 := Lib.hid hb2; clear hb2) | (go_at_call 39; refine (isNameT_calls t _ Ht.out).mono ?_; rintro e w2 ⟨rfl, hb2⟩; have Hb2 := Lib.hid hb2; clear hb2) | fail)
    all_goals go_returns
    all_goals refine ⟨?_, by first | exact below2 (below2 (bel_alloc _ _) (below_drewN _ _)) Hb2.out | exact below2 (bel_alloc _ _) (below_drewN _ _)⟩
    all_goals (simp_all [aloneB]; try omega)
  by_cases h2 : op = 2
  · subst h2
    go_enter Tryz.func127, Tryz.ntmps127
    go_wp2_with fail
    go_quiet (fail)
    go_wp2_with (first | (go_at_call 152; refine (isNumber_calls t _ Ht.out).mono ?_; rintro e w2 ⟨rfl, hb2⟩; have Hb2 := Lib.hid hb2; clear hb2) | (go_at_call 39; refine (isNameT_calls t _ Ht.out).mono ?_; rintro e w2 ⟨rfl, hb2⟩; have Hb2 := Lib.hid hb2; clear hb2) | fail)
    all_goals go_returns
    all_goals refine ⟨?_, by first | exact below2 (below2 (bel_alloc _ _) (below_drewN _ _)) Hb2.out | exact below2 (bel_alloc _ _) (below_drewN _ _)⟩
    all_goals (simp_all [aloneB]; try omega)
  by_cases h3 : op = 3
  · subst h3
    go_enter Tryz.func127, Tryz.ntmps127
    go_wp2_with fail
    go_quiet (fail)
    go_wp2_with (first | (go_at_call 152; refine (isNumber_calls t _ Ht.out).mono ?_; rintro e w2 ⟨rfl, hb2⟩; have Hb2 := Lib.hid hb2; clear hb2) | (go_at_call 39; refine (isNameT_calls t _ Ht.out).mono ?_; rintro e w2 ⟨rfl, hb2⟩; have Hb2 := Lib.hid hb2; clear hb2) | fail)
    all_goals go_returns
    all_goals refine ⟨?_, by first | exact below2 (below2 (bel_alloc _ _) (below_drewN _ _)) Hb2.out | exact below2 (bel_alloc _ _) (below_drewN _ _)⟩
    all_goals (simp_all [aloneB]; try omega)
  by_cases h4 : op = 4
  · subst h4
    go_enter Tryz.func127, Tryz.ntmps127
    go_wp2_with fail
    go_quiet (fail)
    go_wp2_with (first | (go_at_call 152; refine (isNumber_calls t _ Ht.out).mono ?_; rintro e w2 ⟨rfl, hb2⟩; have Hb2 := Lib.hid hb2; clear hb2) | (go_at_call 39; refine (isNameT_calls t _ Ht.out).mono ?_; rintro e w2 ⟨rfl, hb2⟩; have Hb2 := Lib.hid hb2; clear hb2) | fail)
    all_goals go_returns
    all_goals refine ⟨?_, by first | exact below2 (below2 (bel_alloc _ _) (below_drewN _ _)) Hb2.out | exact below2 (bel_alloc _ _) (below_drewN _ _)⟩
    all_goals (simp_all [aloneB]; try omega)
  by_cases h5 : op = 5
  · subst h5
    go_enter Tryz.func127, Tryz.ntmps127
    go_wp2_with fail
    go_quiet (fail)
    go_wp2_with (first | (go_at_call 152; refine (isNumber_calls t _ Ht.out).mono ?_; rintro e w2 ⟨rfl, hb2⟩; have Hb2 := Lib.hid hb2; clear hb2) | (go_at_call 39; refine (isNameT_calls t _ Ht.out).mono ?_; rintro e w2 ⟨rfl, hb2⟩; have Hb2 := Lib.hid hb2; clear hb2) | fail)
    all_goals go_returns
    all_goals refine ⟨?_, by first | exact below2 (below2 (bel_alloc _ _) (below_drewN _ _)) Hb2.out | exact below2 (bel_alloc _ _) (below_drewN _ _)⟩
    all_goals (simp_all [aloneB]; try omega)
  by_cases h6 : op = 6
  · subst h6
    go_enter Tryz.func127, Tryz.ntmps127
    go_wp2_with fail
    go_quiet (fail)
    go_wp2_with (first | (go_at_call 152; refine (isNumber_calls t _ Ht.out).mono ?_; rintro e w2 ⟨rfl, hb2⟩; have Hb2 := Lib.hid hb2; clear hb2) | (go_at_call 39; refine (isNameT_calls t _ Ht.out).mono ?_; rintro e w2 ⟨rfl, hb2⟩; have Hb2 := Lib.hid hb2; clear hb2) | fail)
    all_goals go_returns
    all_goals refine ⟨?_, by first | exact below2 (below2 (bel_alloc _ _) (below_drewN _ _)) Hb2.out | exact below2 (bel_alloc _ _) (below_drewN _ _)⟩
    all_goals (simp_all [aloneB]; try omega)
  by_cases h7 : op = 7
  · subst h7
    go_enter Tryz.func127, Tryz.ntmps127
    go_wp2_with fail
    go_quiet (fail)
    go_wp2_with (first | (go_at_call 152; refine (isNumber_calls t _ Ht.out).mono ?_; rintro e w2 ⟨rfl, hb2⟩; have Hb2 := Lib.hid hb2; clear hb2) | (go_at_call 39; refine (isNameT_calls t _ Ht.out).mono ?_; rintro e w2 ⟨rfl, hb2⟩; have Hb2 := Lib.hid hb2; clear hb2) | fail)
    all_goals go_returns
    all_goals refine ⟨?_, by first | exact below2 (below2 (bel_alloc _ _) (below_drewN _ _)) Hb2.out | exact below2 (bel_alloc _ _) (below_drewN _ _)⟩
    all_goals (simp_all [aloneB]; try omega)
  by_cases h20 : op = 20
  · subst h20
    go_enter Tryz.func127, Tryz.ntmps127
    go_wp2_with fail
    go_quiet (fail)
    go_wp2_with (first | (go_at_call 152; refine (isNumber_calls t _ Ht.out).mono ?_; rintro e w2 ⟨rfl, hb2⟩; have Hb2 := Lib.hid hb2; clear hb2) | (go_at_call 39; refine (isNameT_calls t _ Ht.out).mono ?_; rintro e w2 ⟨rfl, hb2⟩; have Hb2 := Lib.hid hb2; clear hb2) | fail)
    all_goals go_returns
    all_goals refine ⟨?_, by first | exact below2 (below2 (bel_alloc _ _) (below_drewN _ _)) Hb2.out | exact below2 (bel_alloc _ _) (below_drewN _ _)⟩
    all_goals (simp_all [aloneB]; try omega)
  go_enter Tryz.func127, Tryz.ntmps127
  go_wp2_with fail
  go_quiet (fail)
  go_wp2_with (first | (go_at_call 152; refine (isNumber_calls t _ Ht.out).mono ?_; rintro e w2 ⟨rfl, hb2⟩; have Hb2 := Lib.hid hb2; clear hb2) | (go_at_call 39; refine (isNameT_calls t _ Ht.out).mono ?_; rintro e w2 ⟨rfl, hb2⟩; have Hb2 := Lib.hid hb2; clear hb2) | fail)
  all_goals go_returns
  all_goals refine ⟨?_, by first | exact below2 (below2 (bel_alloc _ _) (below_drewN _ _)) Hb2.out | exact below2 (bel_alloc _ _) (below_drewN _ _)⟩
  all_goals (simp_all [aloneB]; try omega)
end

/-! Bounds of reads; statements alone. -/
section
set_option linter.unusedVariables false
set_option linter.unusedSimpArgs false
open Go.RowKit

mutual
def Ex.tx : Ex → Prop
  | .mk _ t _ k => t.length ≤ maxLen ∧ exsTx k
def exsTx : List Ex → Prop
  | [] => True
  | e :: r => e.tx ∧ exsTx r
end
mutual
def St.tx : St → Prop
  | .mk _ n ix v l h t e => n.length ≤ maxLen ∧ exsTx ix ∧ v.tx ∧ l.tx ∧ h.tx ∧ stsTx t ∧ stsTx e
def stsTx : List St → Prop
  | [] => True
  | e :: r => e.tx ∧ stsTx r
end
theorem Ex.tx.text {e : Ex} (h : e.tx) : e.text.length ≤ maxLen := by obtain ⟨o, t, y, k⟩ := e; simp only [Ex.tx] at h; exact h.1
theorem Ex.tx.kids {e : Ex} (h : e.tx) : exsTx e.kids := by obtain ⟨o, t, y, k⟩ := e; simp only [Ex.tx] at h; exact h.2
theorem exsTx_get : ∀ {l : List Ex} (h : exsTx l) (k : Nat) (hk : k < l.length), l[k].tx
  | e :: r, h, 0, _ => by simp only [exsTx] at h; exact h.1
  | e :: r, h, k + 1, hk => by simp only [exsTx] at h; exact exsTx_get h.2 k (by simpa using hk)
theorem stsTx_get : ∀ {l : List St} (h : stsTx l) (k : Nat) (hk : k < l.length), l[k].tx
  | e :: r, h, 0, _ => by simp only [stsTx] at h; exact h.1
  | e :: r, h, k + 1, hk => by simp only [stsTx] at h; exact stsTx_get h.2 k (by simpa using hk)
def Ex.alone (e : Ex) : Bool := aloneB e.op e.text e.ty e.kids.length
theorem alone_one {e : Ex} (h : e.alone = true) (h4 : e.op = 4) : e.kids.length = 1 := by
  simp [Ex.alone, aloneB, h4] at h
  omega
def boundB (e : Ex) : Bool := decide ((if e.op = 4 ∧ e.alone = true then (e.kids.headD .no).op else e.op) = 1)
theorem boundE_calls (e : Ex) (A : Option Addr) (c : Nat) (w : World) (ht : e.tx) (he : ExC (fun _ => True) w e [.int .i64 e.op, .string ⟨e.text.toArray⟩, .int .i64 e.ty, .slice A e.kids.length c]) :
    Calls Tryz.prog 125 #[.agg #[.int .i64 e.op, .string ⟨e.text.toArray⟩, .int .i64 e.ty, .slice A e.kids.length c]] w fun r w' => r = .returned (.bool (boundB e)) ∧ Below w.heap.size w w' := by
  have htx := ht.text
  have Htx := Lib.hid htx
  clear htx ht
  by_cases h4 : e.op = 4
  · obtain ⟨A2, c2, kc, hl, hv, hx⟩ := he.form
    injection hl with _ hl; injection hl with _ hl; injection hl with _ hl; injection hl with hl _; injection hl with e1 _ e2
    subst e1 e2
    have Hv := Lib.hid hv
    have Hx := Lib.hid hx
    clear hv hx he
    have E4 := Lib.hid h4
    rw [h4]
    have hal : ∀ W, Calls Tryz.prog 127 #[.agg #[.int .i64 4, .string ⟨e.text.toArray⟩, .int .i64 e.ty, .slice A e.kids.length c]] W fun r W' => r = .returned (.bool e.alone) ∧ Below W.heap.size W W' := fun W => by
      have := alone_calls 4 e.ty e.text A e.kids.length c W Htx.out
      rw [← E4.out] at this ⊢
      exact this
    have Hal := Lib.hid hal
    clear hal h4
    cases ha : e.alone with
    | false =>
      have Ha := Lib.hid ha
      clear ha
      go_enter Tryz.func125, Tryz.ntmps125
      go_wp2_with fail
      refine (Hal.out _).mono ?_
      rintro r w2 ⟨rfl, hb⟩
      have Hb := Lib.hid (below2 (bel_alloc _ _) hb)
      have hc := (bcell hb).1 w.heap.size
      simp at hc
      have hc0 := hc 0
      clear hc hb
      simp at hc0
      rw [Ha.out]
      go_wp2_with fail
      go_returns
      exact ⟨by simp [boundB, E4.out, Ha.out], Hb.out⟩
    | true =>
      have Ha := Lib.hid ha
      have h1 := alone_one ha E4.out
      clear ha
      obtain ⟨b, off, c', A1, m1, hsl, hle, hbl, ho, g0, g1, g2, g3, he⟩ := Hx.out.elem Hv.out 0 (by omega)
      injection hsl with hA hn' hc'
      subst hA hc'
      have hx0 : e.kids.headD .no = e.kids[0] := by rw [List.headD_eq_head?_getD, List.head?_eq_getElem?, List.getElem?_eq_getElem (by omega)]; rfl
      have Hx0 := Lib.hid hx0
      clear hx0 he ho hn'
      generalize hx : e.kids[0] = x at *
      clear hx
      rw [h1]
      rw [h1] at Hal
      simp only [Nat.zero_mul, Nat.add_zero] at g0 g1 g2 g3
      go_enter Tryz.func125, Tryz.ntmps125
      go_wp2_with fail
      refine (Hal.out _).mono ?_
      rintro r w2 ⟨rfl, hb⟩
      have Hb := Lib.hid (below2 (bel_alloc _ _) hb)
      have hc := (bcell hb).1 w.heap.size
      have hf := (bcell hb).2 w.heap.size
      simp at hc hf
      have hc0 := hc 0
      have hc1 := hc 1
      have hc2 := hc 2
      have hc3 := hc 3
      have hf0 := hf 0
      have hf1 := hf 1
      have hf2 := hf 2
      have hf3 := hf 3
      have hsz := hb.size
      rw [← (bcell Hb.out).1 b _ hbl] at g0 g1 g2 g3
      clear hc hf hb
      simp at hc0 hc1 hc2 hc3 hsz
      rw [Ha.out]
      have hne : ¬ b = w.heap.size := by omega
      go_wp2_with fail
      go_returns
      refine ⟨?_, (((((Gr.of_below (fun _ => True) Hb.out).setCell (Or.inl (Nat.le_refl _)) _).setCell (Or.inl (Nat.le_refl _)) _).setCell (Or.inl (Nat.le_refl _)) _).setCell (Or.inl (Nat.le_refl _)) _).below⟩
      rw [boundB, if_pos ⟨E4.out, Ha.out⟩, Hx0.out]
      rfl
  · have h4' : (e.op == 4) = false := by simpa using h4
    have e0 : boundB e = decide (e.op = 1) := by rw [boundB, if_neg (fun h => h4 h.1)]
    have E0 := Lib.hid e0
    clear he e0
    generalize e.op = op at *
    generalize e.text = t at *
    generalize e.kids.length = n at *
    generalize e.ty = ty at *
    go_enter Tryz.func125, Tryz.ntmps125
    go_wp2_with fail
    go_returns
    exact ⟨by rw [E0.out]; rfl, bel_alloc _ _⟩
end
end Go.Proofs.YtokdcfehnhifhaaGreatDoor
