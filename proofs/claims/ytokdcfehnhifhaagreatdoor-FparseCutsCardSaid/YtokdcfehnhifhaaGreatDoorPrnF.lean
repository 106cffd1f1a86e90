/- Expressions are written, all of it. -/
import Derived.Test.YtokdcfehnhifhaaGreatDoorPrn1
set_option linter.unusedVariables false
set_option linter.unusedSimpArgs false
namespace Go.Proofs.YtokdcfehnhifhaaGreatDoor
open Go.RowKit

theorem below_dr {w w1 : World} (h : Below w.drew.heap.size w.drew w1) : Below w.heap.size w w1 := (Below.drew (Below.refl _ _)).trans h
theorem alone_cases {o : Int} {t : List UInt8} {y : Int} {k : List Ex} (h : aloneB o t y k.length = true) :
    (o = 1 ∧ k = [] ∧ y = 0 ∧ isNum t = true) ∨ (o = 2 ∧ k = [] ∧ y = 0 ∧ isName t = true) ∨ (o = 3 ∧ (∃ a, k = [a]) ∧ y = 0 ∧ isName t = true) ∨
    ((o = 4 ∨ o = 5 ∨ o = 6 ∨ o = 20) ∧ (∃ a, k = [a]) ∧ y = 0 ∧ t = []) ∨ (o = 7 ∧ (∃ a, k = [a]) ∧ t = [] ∧ 1 ≤ y ∧ y ≤ 3) ∨ (8 ≤ o ∧ o ≤ 19 ∧ (∃ a b, k = [a, b]) ∧ y = 0 ∧ t = []) := by
  have one : ((k.length : Int) = 1) → ∃ a, k = [a] := by
    intro h
    match k, h with
    | [a], _ => exact ⟨a, rfl⟩
    | [], h => simp at h
    | _ :: _ :: _, h => simp at h; omega
  have two : ((k.length : Int) = 2) → ∃ a b, k = [a, b] := by
    intro h
    match k, h with
    | [a, b], _ => exact ⟨a, b, rfl⟩
    | [], h => simp at h
    | [_], h => simp at h
    | _ :: _ :: _ :: _, h => simp at h; omega
  have zero : ((k.length : Int) = 0) → k = [] := by intro h; exact List.length_eq_zero_iff.1 (by omega)
  unfold aloneB at h
  split at h
  · simp at h; exact Or.inl ⟨by assumption, h.1.1, h.1.2, h.2⟩
  · split at h
    · simp at h; exact Or.inr (Or.inl ⟨by assumption, h.1.1, h.1.2, h.2⟩)
    · split at h
      · simp only [Bool.and_eq_true, decide_eq_true_eq] at h; exact Or.inr (Or.inr (Or.inl ⟨by assumption, one h.1.1, h.1.2, h.2⟩))
      · split at h
        · simp only [Bool.and_eq_true, decide_eq_true_eq, List.isEmpty_iff] at h; exact Or.inr (Or.inr (Or.inr (Or.inl ⟨by assumption, one h.1.1, h.1.2, h.2⟩)))
        · split at h
          · simp only [Bool.and_eq_true, decide_eq_true_eq, List.isEmpty_iff] at h; exact Or.inr (Or.inr (Or.inr (Or.inr (Or.inl ⟨by assumption, one h.1.1.1, h.1.1.2, h.1.2, h.2⟩))))
          · simp only [Bool.and_eq_true, decide_eq_true_eq, List.isEmpty_iff] at h; exact Or.inr (Or.inr (Or.inr (Or.inr (Or.inr ⟨h.1.1.1.1, h.1.1.1.2, two h.1.1.2, h.1.2, h.2⟩))))
/-- An expression within, where it lies. -/
structure KidAt (B : Nat) (w : World) (b o : Nat) (e : Ex) (A : Option Addr) (m : Nat) : Prop where
  lt : b < w.heap.size
  low : b < B
  cs : ∀ j u, [Value.int .i64 e.op, .string ⟨e.text.toArray⟩, .int .i64 e.ty, .slice A e.kids.length m][j]? = some u → w.cell? ⟨b, o + j, none⟩ = some u
  ex : ExC (· < B) w e [.int .i64 e.op, .string ⟨e.text.toArray⟩, .int .i64 e.ty, .slice A e.kids.length m]
theorem KidAt.gr {B b o m : Nat} {w w' : World} {e : Ex} {A : Option Addr} (h : KidAt B w b o e A m) (hg : Gr (· < B) w w') : KidAt B w' b o e A m :=
  ⟨Nat.lt_of_lt_of_le h.lt hg.size, h.low, fun j u hj => by rw [hg.cell (p := ⟨b, o + j, none⟩) h.lt h.low]; exact h.cs j u hj, h.ex.gr hg⟩
theorem KidAt.c4 {B b o m : Nat} {w : World} {e : Ex} {A : Option Addr} (h : KidAt B w b o e A m) :
    w.cell? ⟨b, o, none⟩ = some (.int .i64 e.op) ∧ w.cell? ⟨b, o + 1, none⟩ = some (.string ⟨e.text.toArray⟩) ∧ w.cell? ⟨b, o + 2, none⟩ = some (.int .i64 e.ty) ∧ w.cell? ⟨b, o + 3, none⟩ = some (.slice A e.kids.length m) :=
  ⟨h.cs 0 _ rfl, h.cs 1 _ rfl, h.cs 2 _ rfl, h.cs 3 _ rfl⟩
theorem kid_at {B : Nat} {w : World} {v : Value} {l : List Ex} {cs : List Value} (hv : RdK (· < B) w v l.length 4 cs) (hl : ExsC (· < B) w l cs) (hn : 0 < l.length) :
    ∃ b off c, v = .slice (some ⟨b, off, none⟩) l.length c ∧ l.length ≤ c ∧ ∀ k (hk : k < l.length), ∃ A m, KidAt B w b (off + k * 4) l[k] A m := by
  obtain ⟨b, off, c, hsl, hle, ho, hlt, hc⟩ := hv.pos hn
  refine ⟨b, off, c, hsl, hle, fun k hk => ?_⟩
  obtain ⟨a, ha, hg⟩ := hl.get k hk
  obtain ⟨A, m, kc, rfl, h1, h2⟩ := ha.form
  exact ⟨A, m, hlt, ho, fun j u hj => by rw [Nat.add_assoc]; exact hc _ _ (hg j u hj), ha⟩
set_option maxRecDepth 100000 in
set_option maxHeartbeats 4000000 in
theorem prE_step (N : Nat) (ih : ECalls N) : ECalls (N + 1) := by
  have ihI := in_of N ih
  have ihC := call_of N ih
  rintro ⟨o, t0, y, k⟩ hN hok B pb t A c w hS he hlen
  simp only [Ex.op, Ex.text, Ex.ty, Ex.kids] at he ⊢
  have hlt := hS.lt
  have X := Lib.hid he
  obtain ⟨A', c', kc, hl, hv, hx⟩ := he.form
  injection hl with _ hl; injection hl with _ hl; injection hl with _ hl; injection hl with hl hl2; injection hl with e1 e3 e2
  subst e1 e2
  clear hl2 e3
  simp only [Ex.kids] at hv hx
  simp only [Ex.okE] at hok
  obtain ⟨ha, hks⟩ := hok
  have S1 := Lib.hid (hS.alloc (.cells #[.int .i64 o, .string ⟨t0.toArray⟩, .int .i64 y, .slice A k.length c] 64))
  have Bx := Lib.hid (Has.new w #[.int .i64 o, .string ⟨t0.toArray⟩, .int .i64 y, .slice A k.length c] 64 rfl)
  have K := Lib.hid (KO.new (B := B) (pb := pb) (w := w) (cs := #[.int .i64 o, .string ⟨t0.toArray⟩, .int .i64 y, .slice A k.length c]) (t := 64) (by decide) hlt)
  have G1 := Lib.hid (Pg1.refl B pb (w.alloc (.cells #[.int .i64 o, .string ⟨t0.toArray⟩, .int .i64 y, .slice A k.length c] 64)))
  have Hv := Lib.hid (hv.gr (Gr.of_below _ (bel_alloc w (.cells #[.int .i64 o, .string ⟨t0.toArray⟩, .int .i64 y, .slice A k.length c] 64))))
  have Hx := Lib.hid (hx.gr (Gr.of_below _ (bel_alloc w (.cells #[.int .i64 o, .string ⟨t0.toArray⟩, .int .i64 y, .slice A k.length c] 64))))
  have Hk := Lib.hid hks
  have hp : prE (.mk o t0 y k) = asmE o t0 y (k.map strE) (prEs k) := by rw [prE]
  rw [hp] at hlen ⊢
  simp only [Ex.sz] at hN
  clear he hS hv hx hks hp
  rcases alone_cases ha with ⟨rfl, rfl, rfl, hnm⟩ | ⟨rfl, rfl, rfl, hnm⟩ | ⟨rfl, ⟨a, rfl⟩, rfl, hnm⟩ | ⟨ho, ⟨a, rfl⟩, rfl, rfl⟩ | ⟨rfl, ⟨a, rfl⟩, rfl, hy1, hy2⟩ | ⟨ho1, ho2, ⟨a, b, rfl⟩, rfl, rfl⟩
  · clear ha hnm
    simp only [List.length_nil] at *
    have ea : asmE 1 t0 0 (([] : List Ex).map strE) (prEs []) = t0 := rfl
    rw [ea] at hlen ⊢
    clear ea
    go_enter Tryz.func75, Tryz.ntmps75
    go_wp2_with fail
    refine (put_new B pb _ [t0] #[.string ⟨t0.toArray⟩] 1 _ _ S1.out rfl rfl (by decide) (by decide) (World.size_alloc _ _).symm (by simp; omega)).mono ?_
    rintro e w2 ⟨rfl, hs, hg⟩
    have S2 := Lib.hid hs
    have G2 := Lib.hid (G1.out.trans hg)
    clear hs hg
    try clear c0 c1 c2 c3 f0 f1 f2 f3 hz
    obtain ⟨c0, c1, c2, c3, f0, f1, f2, f3, hz⟩ := (Bx.out.gr G2.out K.out).c4
    go_wp2_with fail
    first | go_end0 | refine bodyPost_ret (results_none rfl _ _ _) rfl ?_
    exact ⟨rfl, by simpa using S2.out, (Pg1.of_below B pb (bel_alloc _ _)).trans G2.out⟩
  · clear ha hnm
    simp only [List.length_nil] at *
    have ea : asmE 2 t0 0 (([] : List Ex).map strE) (prEs []) = t0 := rfl
    rw [ea] at hlen ⊢
    clear ea
    go_enter Tryz.func75, Tryz.ntmps75
    go_wp2_with fail
    refine (put_new B pb _ [t0] #[.string ⟨t0.toArray⟩] 1 _ _ S1.out rfl rfl (by decide) (by decide) (World.size_alloc _ _).symm (by simp; omega)).mono ?_
    rintro e w2 ⟨rfl, hs, hg⟩
    have S2 := Lib.hid hs
    have G2 := Lib.hid (G1.out.trans hg)
    clear hs hg
    try clear c0 c1 c2 c3 f0 f1 f2 f3 hz
    obtain ⟨c0, c1, c2, c3, f0, f1, f2, f3, hz⟩ := (Bx.out.gr G2.out K.out).c4
    go_wp2_with fail
    first | go_end0 | refine bodyPost_ret (results_none rfl _ _ _) rfl ?_
    exact ⟨rfl, by simpa using S2.out, (Pg1.of_below B pb (bel_alloc _ _)).trans G2.out⟩
  · clear ha hnm
    have ea : asmE 3 t0 0 ([a].map strE) (prEs [a]) = t0 ++ [91] ++ prE a ++ [93] := rfl
    rw [ea] at hlen ⊢
    clear ea
    simp only [List.length_append, List.length_cons, List.length_nil] at hlen
    obtain ⟨b, off, c', hsl, hle, hkid⟩ := kid_at Hv.out Hx.out (by simp)
    injection hsl with hA hn' hc'
    subst hA hc'
    obtain ⟨A1, m1, hk1⟩ := hkid 0 (by simp)
    have Q1 := Lib.hid hk1
    have hna : a.sz ≤ N := by simp only [exsSz] at hN; omega
    have Oka := Lib.hid (exsOk_get Hk.out 0 (by simp))
    clear hkid hk1 hn'
    simp only [List.getElem_cons_zero] at Q1 Oka
    simp only [List.length_cons, List.length_nil, Nat.zero_add] at *
    go_enter Tryz.func75, Tryz.ntmps75
    go_wp2_with fail
    refine (put_new B pb _ [t0, [91]] #[.string ⟨t0.toArray⟩, .string ⟨#[91]⟩] 2 _ _ S1.out rfl rfl (by decide) (by decide) (World.size_alloc _ _).symm (by simp; omega)).mono ?_
    rintro e w2 ⟨rfl, hs, hg⟩
    have S2 := Lib.hid hs
    have G2 := Lib.hid (G1.out.trans hg)
    clear hs hg
    try clear c0 c1 c2 c3 f0 f1 f2 f3 hz
    obtain ⟨c0, c1, c2, c3, f0, f1, f2, f3, hz⟩ := (Bx.out.gr G2.out K.out).c4
    obtain ⟨g0, g1, g2, g3⟩ := (Q1.out.gr G2.out.low).c4
    simp only [Nat.zero_mul, Nat.add_zero] at g0 g1 g2 g3
    go_wp2_with fail
    refine (ih a hna Oka.out B pb _ A1 m1 _ S2.out (Q1.out.gr G2.out.low).ex (by simp; omega)).mono ?_
    rintro e w3 ⟨rfl, hs, hg⟩
    have S3 := Lib.hid hs
    have G3 := Lib.hid (G2.out.trans hg)
    clear hs hg
    try clear c0 c1 c2 c3 f0 f1 f2 f3 hz
    obtain ⟨c0, c1, c2, c3, f0, f1, f2, f3, hz⟩ := (Bx.out.gr G3.out K.out).c4
    go_wp2_with fail
    refine (put_new B pb _ [[93]] #[.string ⟨#[93]⟩] 1 _ _ S3.out rfl rfl (by decide) (by decide) rfl (by simp; omega)).mono ?_
    rintro e w4 ⟨rfl, hs, hg⟩
    have S4 := Lib.hid hs
    have G4 := Lib.hid (G3.out.trans hg)
    clear hs hg
    try clear c0 c1 c2 c3 f0 f1 f2 f3 hz
    obtain ⟨c0, c1, c2, c3, f0, f1, f2, f3, hz⟩ := (Bx.out.gr G4.out K.out).c4
    go_wp2_with fail
    first | go_end0 | refine bodyPost_ret (results_none rfl _ _ _) rfl ?_
    exact ⟨rfl, by simpa using S4.out, (Pg1.of_below B pb (bel_alloc _ _)).trans G4.out⟩
  · clear ha
    obtain ⟨b, off, c', hsl, hle, hkid⟩ := kid_at Hv.out Hx.out (by simp)
    injection hsl with hA hn' hc'
    subst hA hc'
    obtain ⟨A1, m1, hk1⟩ := hkid 0 (by simp)
    have Q1 := Lib.hid hk1
    have hna : a.sz ≤ N := by simp only [exsSz] at hN; omega
    have Oka := Lib.hid (exsOk_get Hk.out 0 (by simp))
    clear hkid hk1 hn'
    simp only [List.getElem_cons_zero] at Q1 Oka
    simp only [List.length_cons, List.length_nil, Nat.zero_add] at *
    rcases ho with rfl | rfl | rfl | rfl
    · have ea : asmE 4 ([] : List UInt8) 0 ([a].map strE) (prEs [a]) = [45] ++ inP 6 (strE a) (prE a) := rfl
      rw [ea] at hlen ⊢
      clear ea
      simp only [List.length_append, List.length_cons, List.length_nil] at hlen
      go_enter Tryz.func75, Tryz.ntmps75
      go_wp2_with fail
      refine (put_new B pb _ [[45]] #[.string ⟨#[45]⟩] 1 _ _ S1.out rfl rfl (by decide) (by decide) (World.size_alloc _ _).symm (by simp; omega)).mono ?_
      rintro e w2 ⟨rfl, hs, hg⟩
      have S2 := Lib.hid hs
      have G2 := Lib.hid (G1.out.trans hg)
      clear hs hg
      try clear c0 c1 c2 c3 f0 f1 f2 f3 hz
      obtain ⟨c0, c1, c2, c3, f0, f1, f2, f3, hz⟩ := (Bx.out.gr G2.out K.out).c4
      obtain ⟨g0, g1, g2, g3⟩ := (Q1.out.gr G2.out.low).c4
      simp only [Nat.zero_mul, Nat.add_zero] at g0 g1 g2 g3
      go_wp2_with fail
      refine (ihI a hna Oka.out 6 B pb _ A1 m1 _ S2.out (Q1.out.gr G2.out.low).ex (by simp; omega)).mono ?_
      rintro e w3 ⟨rfl, hs, hg⟩
      have S3 := Lib.hid hs
      have G3 := Lib.hid (G2.out.trans hg)
      clear hs hg
      try clear c0 c1 c2 c3 f0 f1 f2 f3 hz
      obtain ⟨c0, c1, c2, c3, f0, f1, f2, f3, hz⟩ := (Bx.out.gr G3.out K.out).c4
      go_wp2_with fail
      first | go_end0 | refine bodyPost_ret (results_none rfl _ _ _) rfl ?_
      exact ⟨rfl, by simpa using S3.out, (Pg1.of_below B pb (bel_alloc _ _)).trans G3.out⟩
    · have ea : asmE 5 ([] : List UInt8) 0 ([a].map strE) (prEs [a]) = [97, 98, 115] ++ [40] ++ prE a ++ [41] := rfl
      rw [ea] at hlen ⊢
      clear ea
      obtain ⟨g0, g1, g2, g3⟩ := Q1.out.c4
      simp only [Nat.zero_mul, Nat.add_zero] at g0 g1 g2 g3
      go_enter Tryz.func75, Tryz.ntmps75
      go_wp2_with fail
      refine (ihC a hna Oka.out [97, 98, 115] B pb _ A1 m1 _ S1.out Q1.out.ex hlen).mono ?_
      rintro e w3 ⟨rfl, hs, hg⟩
      have S3 := Lib.hid hs
      have G3 := Lib.hid (G1.out.trans hg)
      clear hs hg
      try clear c0 c1 c2 c3 f0 f1 f2 f3 hz
      obtain ⟨c0, c1, c2, c3, f0, f1, f2, f3, hz⟩ := (Bx.out.gr G3.out K.out).c4
      go_wp2_with fail
      first | go_end0 | refine bodyPost_ret (results_none rfl _ _ _) rfl ?_
      exact ⟨rfl, S3.out, (Pg1.of_below B pb (bel_alloc _ _)).trans G3.out⟩
    · have ea : asmE 6 ([] : List UInt8) 0 ([a].map strE) (prEs [a]) = [115, 113, 114, 116] ++ [40] ++ prE a ++ [41] := rfl
      rw [ea] at hlen ⊢
      clear ea
      obtain ⟨g0, g1, g2, g3⟩ := Q1.out.c4
      simp only [Nat.zero_mul, Nat.add_zero] at g0 g1 g2 g3
      go_enter Tryz.func75, Tryz.ntmps75
      go_wp2_with fail
      refine (ihC a hna Oka.out [115, 113, 114, 116] B pb _ A1 m1 _ S1.out Q1.out.ex hlen).mono ?_
      rintro e w3 ⟨rfl, hs, hg⟩
      have S3 := Lib.hid hs
      have G3 := Lib.hid (G1.out.trans hg)
      clear hs hg
      try clear c0 c1 c2 c3 f0 f1 f2 f3 hz
      obtain ⟨c0, c1, c2, c3, f0, f1, f2, f3, hz⟩ := (Bx.out.gr G3.out K.out).c4
      go_wp2_with fail
      first | go_end0 | refine bodyPost_ret (results_none rfl _ _ _) rfl ?_
      exact ⟨rfl, S3.out, (Pg1.of_below B pb (bel_alloc _ _)).trans G3.out⟩
    · have ea : asmE 20 ([] : List UInt8) 0 ([a].map strE) (prEs [a]) = [33] ++ inP 6 (strE a) (prE a) := rfl
      rw [ea] at hlen ⊢
      clear ea
      simp only [List.length_append, List.length_cons, List.length_nil] at hlen
      go_enter Tryz.func75, Tryz.ntmps75
      go_wp2_with fail
      refine (put_new B pb _ [[33]] #[.string ⟨#[33]⟩] 1 _ _ S1.out rfl rfl (by decide) (by decide) (World.size_alloc _ _).symm (by simp; omega)).mono ?_
      rintro e w2 ⟨rfl, hs, hg⟩
      have S2 := Lib.hid hs
      have G2 := Lib.hid (G1.out.trans hg)
      clear hs hg
      try clear c0 c1 c2 c3 f0 f1 f2 f3 hz
      obtain ⟨c0, c1, c2, c3, f0, f1, f2, f3, hz⟩ := (Bx.out.gr G2.out K.out).c4
      obtain ⟨g0, g1, g2, g3⟩ := (Q1.out.gr G2.out.low).c4
      simp only [Nat.zero_mul, Nat.add_zero] at g0 g1 g2 g3
      go_wp2_with fail
      refine (ihI a hna Oka.out 6 B pb _ A1 m1 _ S2.out (Q1.out.gr G2.out.low).ex (by simp; omega)).mono ?_
      rintro e w3 ⟨rfl, hs, hg⟩
      have S3 := Lib.hid hs
      have G3 := Lib.hid (G2.out.trans hg)
      clear hs hg
      try clear c0 c1 c2 c3 f0 f1 f2 f3 hz
      obtain ⟨c0, c1, c2, c3, f0, f1, f2, f3, hz⟩ := (Bx.out.gr G3.out K.out).c4
      go_wp2_with fail
      first | go_end0 | refine bodyPost_ret (results_none rfl _ _ _) rfl ?_
      exact ⟨rfl, by simpa using S3.out, (Pg1.of_below B pb (bel_alloc _ _)).trans G3.out⟩
  · clear ha
    obtain ⟨b, off, c', hsl, hle, hkid⟩ := kid_at Hv.out Hx.out (by simp)
    injection hsl with hA hn' hc'
    subst hA hc'
    obtain ⟨A1, m1, hk1⟩ := hkid 0 (by simp)
    have Q1 := Lib.hid hk1
    have hna : a.sz ≤ N := by simp only [exsSz] at hN; omega
    have Oka := Lib.hid (exsOk_get Hk.out 0 (by simp))
    clear hkid hk1 hn'
    simp only [List.getElem_cons_zero] at Q1 Oka
    simp only [List.length_cons, List.length_nil, Nat.zero_add] at *
    have ea : asmE 7 ([] : List UInt8) y ([a].map strE) (prEs [a]) = wordOf y ++ [40] ++ prE a ++ [41] := rfl
    rw [ea] at hlen ⊢
    clear ea
    obtain ⟨g0, g1, g2, g3⟩ := Q1.out.c4
    simp only [Nat.zero_mul, Nat.add_zero] at g0 g1 g2 g3
    go_enter Tryz.func75, Tryz.ntmps75
    go_wp2_with fail
    go_region_with (first | (go_at_call 31; refine (word_calls y _ (by omega) hy2).mono ?_; rintro e' w2 ⟨rfl, hb⟩; have Hb := Lib.hid (below_dr hb); clear hb g0 g1 g2 g3; obtain ⟨c0, c1, c2, c3, f0, f1, f2, f3, hz⟩ := (Bx.out.below Hb.out).c4; obtain ⟨g0, g1, g2, g3⟩ := (Q1.out.gr (Gr.of_below _ Hb.out)).c4; simp only [Nat.zero_mul, Nat.add_zero] at g0 g1 g2 g3) | (go_at_call 117; refine (ihC a hna Oka.out (wordOf y) B pb _ A1 m1 _ (S1.out.below Hb.out) ((Q1.out.gr (Gr.of_below _ Hb.out)).ex) hlen).mono ?_; rintro e'' w3 ⟨rfl, hs, hg⟩; have S3 := Lib.hid hs; have G3 := Lib.hid ((Pg1.of_below B pb Hb.out).trans hg); clear hs hg) | fail)
    all_goals
      go_wp2_with fail
      first | go_end0 | refine bodyPost_ret (results_none rfl _ _ _) rfl ?_
      exact ⟨rfl, S3.out, (Pg1.of_below B pb (bel_alloc _ _)).trans G3.out⟩
  · clear ha
    obtain ⟨b', off, c', hsl, hle, hkid⟩ := kid_at Hv.out Hx.out (by simp)
    injection hsl with hA hn' hc'
    subst hA hc'
    obtain ⟨A1, m1, hk1⟩ := hkid 0 (by simp)
    obtain ⟨A2, m2, hk2⟩ := hkid 1 (by simp)
    have Q1 := Lib.hid hk1
    have Q2 := Lib.hid hk2
    have hna : a.sz ≤ N := by simp only [exsSz] at hN; omega
    have hnb : b.sz ≤ N := by simp only [exsSz] at hN; omega
    have Oka := Lib.hid (exsOk_get Hk.out 0 (by simp))
    have Okb := Lib.hid (exsOk_get Hk.out 1 (by simp))
    clear hkid hk1 hk2 hn'
    simp only [List.getElem_cons_zero, List.getElem_cons_succ] at Q1 Q2 Oka Okb
    simp only [List.length_cons, List.length_nil, Nat.zero_add, Nat.reduceAdd] at *
    have hso : 1 ≤ (signO o).2 ∧ (signO o).2 ≤ 5 := by
      have : o = 8 ∨ o = 9 ∨ o = 10 ∨ o = 11 ∨ o = 12 ∨ o = 13 ∨ o = 14 ∨ o = 15 ∨ o = 16 ∨ o = 17 ∨ o = 18 ∨ o = 19 := by omega
      rcases this with rfl | rfl | rfl | rfl | rfl | rfl | rfl | rfl | rfl | rfl | rfl | rfl <;> decide +kernel
    have ea : asmE o ([] : List UInt8) 0 ([a, b].map strE) (prEs [a, b]) = inP (signO o).2 (strE a) (prE a) ++ ([32] ++ (signO o).1 ++ [32]) ++ inP ((signO o).2 + 1) (strE b) (prE b) := by
      unfold asmE
      rw [if_neg (by omega), if_neg (by omega), if_neg (by omega), if_neg (by omega), if_neg (by omega), if_neg (by omega), if_neg (by omega)]
      rfl
    rw [ea] at hlen ⊢
    clear ea
    simp only [List.length_append, List.length_cons, List.length_nil] at hlen
    have t1 : (o == 1) = false := by simp; omega
    have t2 : (o == 2) = false := by simp; omega
    have t3 : (o == 3) = false := by simp; omega
    have t4 : (o == 4) = false := by simp; omega
    have t5 : (o == 5) = false := by simp; omega
    have t6 : (o == 6) = false := by simp; omega
    have t7 : (o == 7) = false := by simp; omega
    have t20 : (o == 20) = false := by simp; omega
    have Sg := Lib.hid (signOf_calls o)
    generalize signO o = so at *
    obtain ⟨sg, lv⟩ := so
    simp only at hso hlen ⊢
    obtain ⟨hl1, hl2⟩ := hso
    clear ho1 ho2
    go_enter Tryz.func75, Tryz.ntmps75
    go_wp2_with fail
    refine (Sg.out _).mono ?_
    rintro e' w2 ⟨rfl, hb⟩
    have S2 := Lib.hid (S1.out.below hb)
    have G2 := Lib.hid (Pg1.of_below B pb hb)
    clear hb
    obtain ⟨c0, c1, c2, c3, f0, f1, f2, f3, hz⟩ := (Bx.out.gr G2.out K.out).c4
    obtain ⟨g0, g1, g2, g3⟩ := (Q1.out.gr G2.out.low).c4
    simp only [Nat.zero_mul, Nat.add_zero] at g0 g1 g2 g3
    go_wp2_with fail
    refine (ihI a hna Oka.out lv B pb _ A1 m1 _ S2.out (Q1.out.gr G2.out.low).ex (by omega)).mono ?_
    rintro e w3 ⟨rfl, hs, hg⟩
    have S3 := Lib.hid hs
    have G3 := Lib.hid (G2.out.trans hg)
    clear hs hg
    try clear c0 c1 c2 c3 f0 f1 f2 f3 hz
    obtain ⟨c0, c1, c2, c3, f0, f1, f2, f3, hz⟩ := (Bx.out.gr G3.out K.out).c4
    clear g0 g1 g2 g3
    go_wp2_with fail
    refine (put_new B pb _ [[32], sg, [32]] #[.string ⟨#[32]⟩, .string ⟨sg.toArray⟩, .string ⟨#[32]⟩] 3 _ _ S3.out rfl rfl (by decide) (by decide) rfl (by simp; omega)).mono ?_
    rintro e w4 ⟨rfl, hs, hg⟩
    have S4 := Lib.hid hs
    have G4 := Lib.hid (G3.out.trans hg)
    clear hs hg
    try clear c0 c1 c2 c3 f0 f1 f2 f3 hz
    obtain ⟨c0, c1, c2, c3, f0, f1, f2, f3, hz⟩ := (Bx.out.gr G4.out K.out).c4
    obtain ⟨g0, g1, g2, g3⟩ := (Q2.out.gr G4.out.low).c4
    simp only [Nat.one_mul] at g0 g1 g2 g3
    go_wp2_with fail
    refine (ihI b hnb Okb.out (lv + 1) B pb _ A2 m2 _ S4.out (Q2.out.gr G4.out.low).ex (by simp; omega)).mono ?_
    rintro e w5 ⟨rfl, hs, hg⟩
    have S5 := Lib.hid hs
    have G5 := Lib.hid (G4.out.trans hg)
    clear hs hg
    try clear c0 c1 c2 c3 f0 f1 f2 f3 hz
    obtain ⟨c0, c1, c2, c3, f0, f1, f2, f3, hz⟩ := (Bx.out.gr G5.out K.out).c4
    go_wp2_with fail
    first | go_end0 | refine bodyPost_ret (results_none rfl _ _ _) rfl ?_
    exact ⟨rfl, by simpa using S5.out, (Pg1.of_below B pb (bel_alloc _ _)).trans G5.out⟩
theorem prE_all : ∀ N, ECalls N
  | 0 => by
    rintro ⟨op, t, ty, kids⟩ hN
    simp only [Ex.sz] at hN
    omega
  | N + 1 => prE_step N (prE_all N)
theorem prE_calls (e : Ex) (hok : e.okE) (B pb : Nat) (t : List UInt8) (A : Option Addr) (c : Nat) (w : World) (h : PrS B pb t w)
    (he : ExC (· < B) w e [.int .i64 e.op, .string ⟨e.text.toArray⟩, .int .i64 e.ty, .slice A e.kids.length c]) (hlen : t.length + (prE e).length ≤ 140737488355328) :
    Calls Tryz.prog 75 #[.pointer (some ⟨pb, 0, none⟩), .agg #[.int .i64 e.op, .string ⟨e.text.toArray⟩, .int .i64 e.ty, .slice A e.kids.length c]] w (WrEnd B pb t (prE e) w) :=
  prE_all e.sz e (Nat.le_refl _) hok B pb t A c w h he hlen
end Go.Proofs.YtokdcfehnhifhaaGreatDoor
