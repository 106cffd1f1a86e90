/- Trees in memory: expressions, statements, declarations. The parser of package fparse, in plain words: states, faults, fuel. What the parser leaves is less than what it had. The parser of whole programs, in plain words. -/
import Derived.Test.YtokdcfehnhifhaaGreatDoorLex
import Derived.Test.YtokdcfehnhifhaaGreatDoorShelf
namespace Go.Proofs.YtokdcfehnhifhaaGreatDoor
/-! Trees in memory: expressions, statements, declarations. -/
section
set_option linter.unusedVariables false
set_option linter.unusedSimpArgs false
open Go.RowKit

/-- Every old block of which this holds stays as it was. -/
structure Gr (ok : Nat → Prop) (w w' : World) : Prop where
  os : w'.os = w.os
  tape : w'.tape = w.tape
  output : w'.output = w.output
  size : w.heap.size ≤ w'.heap.size
  block : ∀ k, k < w.heap.size → ok k → w'.heap[k]? = w.heap[k]?

section
variable {ok ok' : Nat → Prop} {w w1 w2 : World}
theorem Gr.refl (ok : Nat → Prop) (w : World) : Gr ok w w := ⟨rfl, rfl, rfl, Nat.le_refl _, fun _ _ _ => rfl⟩
theorem Gr.trans (h : Gr ok w w1) (k : Gr ok w1 w2) : Gr ok w w2 :=
  ⟨k.os.trans h.os, k.tape.trans h.tape, k.output.trans h.output, Nat.le_trans h.size k.size, fun b hb ho => (k.block b (Nat.lt_of_lt_of_le hb h.size) ho).trans (h.block b hb ho)⟩
theorem Gr.mono (h : Gr ok w w1) (hk : ∀ k, k < w.heap.size → ok' k → ok k) : Gr ok' w w1 :=
  ⟨h.os, h.tape, h.output, h.size, fun b hb ho => h.block b hb (hk b hb ho)⟩
/-- What goes on in new memory alone. -/
theorem Gr.later {ok2 : Nat → Prop} (h : Gr ok w w1) (k : Gr ok2 w1 w2) (hk : ∀ b, b < w.heap.size → ok b → ok2 b) : Gr ok w w2 :=
  ⟨k.os.trans h.os, k.tape.trans h.tape, k.output.trans h.output, Nat.le_trans h.size k.size, fun b hb ho => (k.block b (Nat.lt_of_lt_of_le hb h.size) (hk b hb ho)).trans (h.block b hb ho)⟩
theorem Gr.of_below (ok : Nat → Prop) (h : Below w.heap.size w w1) : Gr ok w w1 := ⟨h.os, h.tape, h.output, h.size, fun b hb _ => h.block b hb⟩
theorem Gr.below (h : Gr (fun _ => True) w w1) : Below w.heap.size w w1 := ⟨h.os, h.tape, h.output, h.size, fun b hb => h.block b hb trivial⟩
theorem Gr.below_of (h : Gr ok w w1) (hk : ∀ k, k < w.heap.size → ok k) : Below w.heap.size w w1 := ⟨h.os, h.tape, h.output, h.size, fun b hb => h.block b hb (hk b hb)⟩
theorem Gr.cell (h : Gr ok w w1) {p : Addr} (hp : p.block < w.heap.size) (ho : ok p.block) : w1.cell? p = w.cell? p := World.cell?_of_block (w := w) (h.block p.block hp ho)
theorem Gr.frozen (h : Gr ok w w1) {p : Addr} (hp : p.block < w.heap.size) (ho : ok p.block) : w1.frozen? p = w.frozen? p := World.frozen?_of_block (w := w) (h.block p.block hp ho)
theorem Gr.alloc (h : Gr ok w w1) (o : Obj) : Gr ok w (w1.alloc o) :=
  ⟨h.os, h.tape, h.output, by have := h.size; simp; omega, fun b hb ho => by rw [Below.heap_alloc _ _ _ (Nat.lt_of_lt_of_le hb h.size)]; exact h.block b hb ho⟩
theorem Gr.setCell (h : Gr ok w w1) {p : Addr} (hp : w.heap.size ≤ p.block ∨ ¬ ok p.block) (u : Value) : Gr ok w (w1.setCell p u) :=
  ⟨h.os, h.tape, h.output, by simpa using h.size, fun b hb ho => by
    rw [Below.heap_setCell _ _ _ _ (by rintro rfl; rcases hp with hp | hp; omega; exact hp ho)]; exact h.block b hb ho⟩
theorem Gr.drew (h : Gr ok w w1) : Gr ok w w1.drew := ⟨h.os, h.tape, h.output, h.size, h.block⟩
theorem Gr.grown {row : Option Nat} (h : Gr ok w w1) (hg : w1.grownBy w2 row) (hr : ∀ k, row = some k → k < w.heap.size → ¬ ok k) : Gr ok w w2 :=
  ⟨hg.os.trans h.os, hg.tape.trans h.tape, hg.output.trans h.output, Nat.le_trans h.size hg.size, fun b hb ho => (hg.block b (Nat.lt_of_lt_of_le hb h.size) (fun he => hr b he.symm hb ho)).trans (h.block b hb ho)⟩
end

/-- As RdAt, with a word on where it may lie. -/
def RdK (ok : Nat → Prop) (w : World) (v : Value) (n size : Nat) (cells : List Value) : Prop :=
  cells.length = n * size ∧ n ≤ 140737488355328 ∧
  ((n = 0 ∧ ∃ A c, v = .slice A 0 c) ∨
   ∃ b off c, v = .slice (some ⟨b, off, none⟩) n c ∧ n ≤ c ∧ ok b ∧ b < w.heap.size ∧ ∀ j u, cells[j]? = some u → w.cell? ⟨b, off + j, none⟩ = some u)
section
variable {ok ok' : Nat → Prop} {w w' : World} {v : Value} {n size : Nat} {cells : List Value}
theorem RdK.gr (h : RdK ok w v n size cells) (hb : Gr ok w w') : RdK ok w' v n size cells := by
  obtain ⟨h1, h2, h3⟩ := h
  refine ⟨h1, h2, ?_⟩
  rcases h3 with h3 | ⟨b, off, c, hv, hle, ho, hlt, hc⟩
  · exact Or.inl h3
  · exact Or.inr ⟨b, off, c, hv, hle, ho, Nat.lt_of_lt_of_le hlt hb.size, fun j u hj => by rw [hb.cell (p := ⟨b, off + j, none⟩) hlt ho]; exact hc j u hj⟩
theorem RdK.mono (h : RdK ok w v n size cells) (hk : ∀ b, b < w.heap.size → ok b → ok' b) : RdK ok' w v n size cells := by
  obtain ⟨h1, h2, h3⟩ := h
  refine ⟨h1, h2, ?_⟩
  rcases h3 with h3 | ⟨b, off, c, hv, hle, ho, hlt, hc⟩
  · exact Or.inl h3
  · exact Or.inr ⟨b, off, c, hv, hle, hk b hlt ho, hlt, hc⟩
theorem RdK.rd (h : RdK ok w v n size cells) : RdAt w v n size cells := by
  obtain ⟨h1, h2, h3⟩ := h
  refine ⟨h1, h2, ?_⟩
  rcases h3 with h3 | ⟨b, off, c, hv, hle, ho, hlt, hc⟩
  · exact Or.inl h3
  · exact Or.inr ⟨b, off, c, hv, hle, hlt, hc⟩
theorem RdAt.k (h : RdAt w v n size cells) (hk : ∀ b, b < w.heap.size → ok b) : RdK ok w v n size cells := by
  obtain ⟨h1, h2, h3⟩ := h
  refine ⟨h1, h2, ?_⟩
  rcases h3 with h3 | ⟨b, off, c, hv, hle, hlt, hc⟩
  · exact Or.inl h3
  · exact Or.inr ⟨b, off, c, hv, hle, hk b hlt, hlt, hc⟩
theorem RdK.slice (h : RdK ok w v n size cells) : ∃ A c, v = .slice A n c := h.rd.slice
theorem RdK.le (h : RdK ok w v n size cells) : n ≤ 140737488355328 := h.2.1
theorem RdK.pos (h : RdK ok w v n size cells) (hn : 0 < n) :
    ∃ b off c, v = .slice (some ⟨b, off, none⟩) n c ∧ n ≤ c ∧ ok b ∧ b < w.heap.size ∧ ∀ j u, cells[j]? = some u → w.cell? ⟨b, off + j, none⟩ = some u := by
  rcases h.2.2 with ⟨h0, _⟩ | h1
  · omega
  · exact h1
theorem RdK.nil (ok : Nat → Prop) (w : World) (A : Option Addr) (c size : Nat) : RdK ok w (.slice A 0 c) 0 size [] := ⟨by simp, by omega, Or.inl ⟨rfl, A, c, rfl⟩⟩
theorem RdK.of_own {base : Nat} {e : TypeId} (h : w.ownsRow base e size v n cells) (hn : n ≤ 140737488355328) (hk : ∀ b, v.ownBlock = some b → ok b) : RdK ok w v n size cells := by
  refine ⟨h.1, hn, ?_⟩
  rcases h.2 with ⟨rfl, rfl⟩ | ⟨g, cap, cur, rfl, hg, hh, hle, hm, hs, ht⟩
  · exact Or.inl ⟨rfl, none, 0, rfl⟩
  · refine Or.inr ⟨g, 0, cap, rfl, hle, hk g rfl, (Array.getElem?_eq_some_iff.1 hh).1, fun j u hj => ?_⟩
    have := h.cells (g := g) rfl j u hj
    rwa [add_mk] at this
/-- The elements from k on. -/
theorem RdK.tail (h : RdK ok w v n size cells) (hn : 0 < n) : ∃ b off c, v = .slice (some ⟨b, off, none⟩) n c ∧ n ≤ c ∧ ok b ∧ b < w.heap.size ∧
    RdK ok w (.slice (some ⟨b, off + size, none⟩) (n - 1) (c - 1)) (n - 1) size (cells.drop size) := by
  obtain ⟨b, off, c, rfl, hle, ho, hlt, hc⟩ := h.pos hn
  refine ⟨b, off, c, rfl, hle, ho, hlt, ?_, by have := h.2.1; omega, ?_⟩
  · rw [List.length_drop, h.1, Nat.sub_mul, Nat.one_mul]
  · refine Or.inr ⟨b, off + size, c - 1, rfl, by omega, ho, hlt, fun j u hj => ?_⟩
    rw [List.getElem?_drop] at hj
    rw [Nat.add_assoc]
    exact hc _ _ hj
end

inductive Ex where
  | mk (op : Int) (text : List UInt8) (ty : Int) (kids : List Ex)
inductive St where
  | mk (do_ : Int) (name : List UInt8) (index : List Ex) (value low high : Ex) (then_ else_ : List St)
structure De where
  name : List UInt8
  ty : Int
  cells : Int
structure Pg where
  decls : List De
  body : List St
def Ex.op : Ex → Int | .mk o _ _ _ => o
def Ex.text : Ex → List UInt8 | .mk _ t _ _ => t
def Ex.ty : Ex → Int | .mk _ _ t _ => t
def Ex.kids : Ex → List Ex | .mk _ _ _ k => k
def St.do_ : St → Int | .mk d _ _ _ _ _ _ _ => d
def St.name : St → List UInt8 | .mk _ n _ _ _ _ _ _ => n
def St.index : St → List Ex | .mk _ _ i _ _ _ _ _ => i
def St.value : St → Ex | .mk _ _ _ v _ _ _ _ => v
def St.low : St → Ex | .mk _ _ _ _ l _ _ _ => l
def St.high : St → Ex | .mk _ _ _ _ _ h _ _ => h
def St.then_ : St → List St | .mk _ _ _ _ _ _ t _ => t
def St.else_ : St → List St | .mk _ _ _ _ _ _ _ e => e
/-- No expression. -/
def Ex.no : Ex := .mk 0 [] 0 []

mutual
def ExC (ok : Nat → Prop) (w : World) : Ex → List Value → Prop
  | .mk op t ty kids, cs => ∃ kv kc, cs = [.int .i64 op, strV t, .int .i64 ty, kv] ∧ RdK ok w kv kids.length 4 kc ∧ ExsC ok w kids kc
def ExsC (ok : Nat → Prop) (w : World) : List Ex → List Value → Prop
  | [], cs => cs = []
  | e :: r, cs => ∃ a b, cs = a ++ b ∧ ExC ok w e a ∧ ExsC ok w r b
end
mutual
def StC (ok : Nat → Prop) (w : World) : St → List Value → Prop
  | .mk d n ix v l h t e, cs => ∃ iv ic vc lc hc tv tc ev ec, cs = [.int .i64 d, strV n, iv] ++ vc ++ lc ++ hc ++ [tv, ev] ∧
      RdK ok w iv ix.length 4 ic ∧ ExsC ok w ix ic ∧ ExC ok w v vc ∧ ExC ok w l lc ∧ ExC ok w h hc ∧
      RdK ok w tv t.length 17 tc ∧ StsC ok w t tc ∧ RdK ok w ev e.length 17 ec ∧ StsC ok w e ec
def StsC (ok : Nat → Prop) (w : World) : List St → List Value → Prop
  | [], cs => cs = []
  | e :: r, cs => ∃ a b, cs = a ++ b ∧ StC ok w e a ∧ StsC ok w r b
end

section
variable {ok ok' : Nat → Prop} {w w' : World}
mutual
theorem ExC.go (hg : Gr ok w w') (hk : ∀ b, b < w'.heap.size → ok b → ok' b) : (e : Ex) → (cs : List Value) → ExC ok w e cs → ExC ok' w' e cs
  | .mk op t ty kids, cs, h => by
    simp only [ExC] at h ⊢
    obtain ⟨kv, kc, rfl, h1, h2⟩ := h
    exact ⟨kv, kc, rfl, (h1.gr hg).mono hk, ExsC.go hg hk kids kc h2⟩
theorem ExsC.go (hg : Gr ok w w') (hk : ∀ b, b < w'.heap.size → ok b → ok' b) : (l : List Ex) → (cs : List Value) → ExsC ok w l cs → ExsC ok' w' l cs
  | [], cs, h => by simpa only [ExsC] using h
  | e :: r, cs, h => by
    simp only [ExsC] at h ⊢
    obtain ⟨a, b, rfl, h1, h2⟩ := h
    exact ⟨a, b, rfl, ExC.go hg hk e a h1, ExsC.go hg hk r b h2⟩
end
mutual
theorem StC.go (hg : Gr ok w w') (hk : ∀ b, b < w'.heap.size → ok b → ok' b) : (e : St) → (cs : List Value) → StC ok w e cs → StC ok' w' e cs
  | .mk d n ix v l h t e, cs, hh => by
    simp only [StC] at hh ⊢
    obtain ⟨iv, ic, vc, lc, hc, tv, tc, ev, ec, rfl, h1, h2, h3, h4, h5, h6, h7, h8, h9⟩ := hh
    exact ⟨iv, ic, vc, lc, hc, tv, tc, ev, ec, rfl, (h1.gr hg).mono hk, ExsC.go hg hk _ _ h2, ExC.go hg hk _ _ h3, ExC.go hg hk _ _ h4, ExC.go hg hk _ _ h5, (h6.gr hg).mono hk, StsC.go hg hk t tc h7, (h8.gr hg).mono hk, StsC.go hg hk e ec h9⟩
theorem StsC.go (hg : Gr ok w w') (hk : ∀ b, b < w'.heap.size → ok b → ok' b) : (l : List St) → (cs : List Value) → StsC ok w l cs → StsC ok' w' l cs
  | [], cs, h => by simpa only [StsC] using h
  | e :: r, cs, h => by
    simp only [StsC] at h ⊢
    obtain ⟨a, b, rfl, h1, h2⟩ := h
    exact ⟨a, b, rfl, StC.go hg hk e a h1, StsC.go hg hk r b h2⟩
end
theorem ExC.gr {e : Ex} {cs : List Value} (h : ExC ok w e cs) (hg : Gr ok w w') : ExC ok w' e cs := ExC.go hg (fun _ _ h => h) e cs h
theorem ExsC.gr {e : List Ex} {cs : List Value} (h : ExsC ok w e cs) (hg : Gr ok w w') : ExsC ok w' e cs := ExsC.go hg (fun _ _ h => h) e cs h
theorem StC.gr {e : St} {cs : List Value} (h : StC ok w e cs) (hg : Gr ok w w') : StC ok w' e cs := StC.go hg (fun _ _ h => h) e cs h
theorem StsC.gr {e : List St} {cs : List Value} (h : StsC ok w e cs) (hg : Gr ok w w') : StsC ok w' e cs := StsC.go hg (fun _ _ h => h) e cs h
theorem ExC.mono {e : Ex} {cs : List Value} (h : ExC ok w e cs) (hk : ∀ b, b < w.heap.size → ok b → ok' b) : ExC ok' w e cs := ExC.go (Gr.refl _ _) hk e cs h
theorem ExsC.mono {e : List Ex} {cs : List Value} (h : ExsC ok w e cs) (hk : ∀ b, b < w.heap.size → ok b → ok' b) : ExsC ok' w e cs := ExsC.go (Gr.refl _ _) hk e cs h
theorem StC.mono {e : St} {cs : List Value} (h : StC ok w e cs) (hk : ∀ b, b < w.heap.size → ok b → ok' b) : StC ok' w e cs := StC.go (Gr.refl _ _) hk e cs h
theorem StsC.mono {e : List St} {cs : List Value} (h : StsC ok w e cs) (hk : ∀ b, b < w.heap.size → ok b → ok' b) : StsC ok' w e cs := StsC.go (Gr.refl _ _) hk e cs h
theorem ExC.len {e : Ex} {cs : List Value} (h : ExC ok w e cs) : cs.length = 4 := by
  cases e
  simp only [ExC] at h
  obtain ⟨kv, kc, rfl, _⟩ := h
  rfl
theorem ExsC.len {l : List Ex} {cs : List Value} (h : ExsC ok w l cs) : cs.length = l.length * 4 := by
  induction l generalizing cs with
  | nil => simp only [ExsC] at h; simp [h]
  | cons e r ih =>
    simp only [ExsC] at h
    obtain ⟨a, b, rfl, h1, h2⟩ := h
    simp [h1.len, ih h2]
    omega
theorem StC.len {e : St} {cs : List Value} (h : StC ok w e cs) : cs.length = 17 := by
  cases e
  simp only [StC] at h
  obtain ⟨iv, ic, vc, lc, hc, tv, tc, ev, ec, rfl, h1, h2, h3, h4, h5, h6, h7, h8, h9⟩ := h
  simp [h3.len, h4.len, h5.len]
theorem StsC.len {l : List St} {cs : List Value} (h : StsC ok w l cs) : cs.length = l.length * 17 := by
  induction l generalizing cs with
  | nil => simp only [StsC] at h; simp [h]
  | cons e r ih =>
    simp only [StsC] at h
    obtain ⟨a, b, rfl, h1, h2⟩ := h
    simp [h1.len, ih h2]
    omega
theorem ExsC.get {l : List Ex} {cs : List Value} (h : ExsC ok w l cs) (k : Nat) (hk : k < l.length) : ∃ a, ExC ok w l[k] a ∧ ∀ j u, a[j]? = some u → cs[k * 4 + j]? = some u := by
  induction l generalizing cs k with
  | nil => simp at hk
  | cons e r ih =>
    simp only [ExsC] at h
    obtain ⟨a, b, rfl, h1, h2⟩ := h
    cases k with
    | zero =>
      refine ⟨a, h1, fun j u hj => ?_⟩
      rw [Nat.zero_mul, Nat.zero_add, List.getElem?_append_left (List.getElem?_eq_some_iff.1 hj).1]
      exact hj
    | succ k =>
      obtain ⟨x, hx, hc⟩ := ih h2 k (by simpa using hk)
      refine ⟨x, hx, fun j u hj => ?_⟩
      rw [List.getElem?_append_right (by rw [h1.len]; omega), h1.len, show (k + 1) * 4 + j - 4 = k * 4 + j by omega]
      exact hc j u hj
theorem StsC.get {l : List St} {cs : List Value} (h : StsC ok w l cs) (k : Nat) (hk : k < l.length) : ∃ a, StC ok w l[k] a ∧ ∀ j u, a[j]? = some u → cs[k * 17 + j]? = some u := by
  induction l generalizing cs k with
  | nil => simp at hk
  | cons e r ih =>
    simp only [StsC] at h
    obtain ⟨a, b, rfl, h1, h2⟩ := h
    cases k with
    | zero =>
      refine ⟨a, h1, fun j u hj => ?_⟩
      rw [Nat.zero_mul, Nat.zero_add, List.getElem?_append_left (List.getElem?_eq_some_iff.1 hj).1]
      exact hj
    | succ k =>
      obtain ⟨x, hx, hc⟩ := ih h2 k (by simpa using hk)
      refine ⟨x, hx, fun j u hj => ?_⟩
      rw [List.getElem?_append_right (by rw [h1.len]; omega), h1.len, show (k + 1) * 17 + j - 17 = k * 17 + j by omega]
      exact hc j u hj
theorem ExsC.snoc {l : List Ex} {e : Ex} {cs a : List Value} (h : ExsC ok w l cs) (he : ExC ok w e a) : ExsC ok w (l ++ [e]) (cs ++ a) := by
  induction l generalizing cs with
  | nil => simp only [ExsC] at h; subst h; simp only [List.nil_append, ExsC]; exact ⟨a, [], by simp, he, rfl⟩
  | cons e r ih =>
    simp only [ExsC] at h
    obtain ⟨x, b, rfl, h1, h2⟩ := h
    simp only [List.cons_append, ExsC]
    exact ⟨x, b ++ a, by simp, h1, ih h2⟩
theorem StsC.snoc {l : List St} {e : St} {cs a : List Value} (h : StsC ok w l cs) (he : StC ok w e a) : StsC ok w (l ++ [e]) (cs ++ a) := by
  induction l generalizing cs with
  | nil => simp only [StsC] at h; subst h; simp only [List.nil_append, StsC]; exact ⟨a, [], by simp, he, rfl⟩
  | cons e r ih =>
    simp only [StsC] at h
    obtain ⟨x, b, rfl, h1, h2⟩ := h
    simp only [List.cons_append, StsC]
    exact ⟨x, b ++ a, by simp, h1, ih h2⟩
end
def De.vals (d : De) : List Value := [strV d.name, .int .i64 d.ty, .int .i64 d.cells]
def deCells (l : List De) : List Value := l.flatMap De.vals
/-- A program, as a value. -/
def PgC (ok : Nat → Prop) (w : World) (p : Pg) (v : Value) : Prop :=
  ∃ dv bv bc, v = .agg #[dv, bv] ∧ RdK ok w dv p.decls.length 3 (deCells p.decls) ∧ RdK ok w bv p.body.length 17 bc ∧ StsC ok w p.body bc
theorem PgC.go {ok ok' : Nat → Prop} {w w' : World} {p : Pg} {v : Value} (h : PgC ok w p v) (hg : Gr ok w w') (hk : ∀ b, b < w'.heap.size → ok b → ok' b) : PgC ok' w' p v := by
  obtain ⟨dv, bv, bc, rfl, h1, h2, h3⟩ := h
  exact ⟨dv, bv, bc, rfl, (h1.gr hg).mono hk, (h2.gr hg).mono hk, StsC.go hg hk _ _ h3⟩
mutual
def Ex.sz : Ex → Nat
  | .mk _ _ _ k => 1 + exsSz k
def exsSz : List Ex → Nat
  | [] => 0
  | e :: r => e.sz + exsSz r
end
mutual
def St.sz : St → Nat
  | .mk _ _ ix v l h t e => 1 + exsSz ix + v.sz + l.sz + h.sz + stsSz t + stsSz e
def stsSz : List St → Nat
  | [] => 0
  | e :: r => e.sz + stsSz r
end
theorem exsSz_get (l : List Ex) (k : Nat) (h : k < l.length) : l[k].sz ≤ exsSz l := by
  induction l generalizing k with
  | nil => simp at h
  | cons e r ih =>
    cases k with
    | zero => simp [exsSz]
    | succ k => have := ih k (by simpa using h); simp [exsSz]; omega
theorem stsSz_get (l : List St) (k : Nat) (h : k < l.length) : l[k].sz ≤ stsSz l := by
  induction l generalizing k with
  | nil => simp at h
  | cons e r ih =>
    cases k with
    | zero => simp [stsSz]
    | succ k => have := ih k (by simpa using h); simp [stsSz]; omega
end

/-! The parser of package fparse, in plain words: states, faults, fuel. -/
section
set_option linter.unusedVariables false
set_option linter.unusedSimpArgs false
open Go.RowKit

structure PS where
  toks : List Tok
  deep : Int
  most : Int
  odd : Bool
inductive Res (α : Type) where
  | ok (a : α) (s : PS)
  | bad (left : Nat)
def P (α : Type) : Type := PS → Option (Res α)
def P.ret {α : Type} (a : α) : P α := fun s => some (.ok a s)
def P.fail {α : Type} : P α := fun s => some (.bad s.toks.length)
def P.bind {α β : Type} (x : P α) (f : α → P β) : P β := fun s =>
  match x s with
  | none => none
  | some (.bad n) => some (.bad n)
  | some (.ok a s1) => f a s1
theorem P.bind_some {α β : Type} {x : P α} {f : α → P β} {s : PS} {r : Res β} (h : x.bind f s = some r) :
    ∃ q, x s = some q ∧ ((∃ n, q = .bad n ∧ r = .bad n) ∨ ∃ a s1, q = .ok a s1 ∧ f a s1 = some r) := by
  unfold P.bind at h
  cases hx : x s with
  | none => simp [hx] at h
  | some q =>
    cases q with
    | bad n => simp [hx] at h; exact ⟨_, rfl, Or.inl ⟨n, rfl, h.symm⟩⟩
    | ok a s1 => simp [hx] at h; exact ⟨_, rfl, Or.inr ⟨a, s1, rfl, h⟩⟩

def hd (s : PS) : Tok := s.toks.headD ⟨0, [], 0⟩
def drop1 (s : PS) : PS := { s with toks := s.toks.tail }
/-- Is the next one a word or a sign of these? -/
def isOf (ts : List (List UInt8)) (s : PS) : Bool := ((hd s).kind == 2 || (hd s).kind == 5) && ts.contains (hd s).text
def pPass : P (List UInt8) := fun s => some (.ok (hd s).text (drop1 s))
def pEat (t : List UInt8) : P Bool := fun s => if isOf [t] s = true then some (.ok true (drop1 s)) else some (.ok false s)
def pMust : List (List UInt8) → P Unit
  | [] => P.ret ()
  | t :: r => (pEat t).bind fun b => if b = true then pMust r else P.fail
def pTake (ks : List Int) : P (List UInt8) := fun s => if ks.contains (hd s).kind = true then pPass s else P.fail s

def sInt : List UInt8 := [105, 110, 116]
def sFloat : List UInt8 := [102, 108, 111, 97, 116]
def sDouble : List UInt8 := [100, 111, 117, 98, 108, 101]
def typesL : List (List UInt8) := [sInt, sFloat, sDouble]
def typeOf (t : List UInt8) : Int := if t = [] then 0 else if t = sInt then 1 else if t = sFloat then 2 else if t = sDouble then 3 else -1
def opsL : List (List (List UInt8)) := [[[124, 124]], [[38, 38]], [[61, 61], [33, 61], [60], [60, 61], [62], [62, 61]], [[43], [45]], [[42], [47]]]
def opsAt (k : Nat) : List (List UInt8) := opsL.getD k []
def opOf (t : List UInt8) : Int :=
  if t = [124, 124] then 19 else if t = [38, 38] then 18 else if t = [61, 61] then 16 else if t = [33, 61] then 17 else if t = [60] then 12 else if t = [60, 61] then 13
  else if t = [62] then 14 else if t = [62, 61] then 15 else if t = [43] then 8 else if t = [45] then 9 else if t = [42] then 10 else if t = [47] then 11 else 0
def withE (o : Int) (k : List Ex) : Ex := .mk o [] 0 k
def pIn : P Unit := fun s => some (.ok () { s with deep := wrap64 (s.deep + 1), most := max s.most (wrap64 (s.deep + 1)) })
def pOut : P Unit := fun s => some (.ok () { s with deep := wrap64 (s.deep - 1) })

def pCastW (x : P Ex) : P Ex := fun s => if isOf typesL s = true then (pPass.bind fun t => x.bind fun e => P.ret (.mk 7 [] (typeOf t) [e])) s else P.fail s
mutual
def pExpr : Nat → Nat → P Ex
  | 0, _ => fun _ => none
  | f + 1, level => if level = 5 then pUnary f else (pExpr f (level + 1)).bind fun e => pRest f level e
def pRest : Nat → Nat → Ex → P Ex
  | 0, _, _ => fun _ => none
  | f + 1, level, e => fun s => if isOf (opsAt level) s = true then (pPass.bind fun t => (pExpr f (level + 1)).bind fun e2 => pRest f level (withE (opOf t) [e, e2])) s else some (.ok e s)
def pUnary : Nat → P Ex
  | 0 => fun _ => none
  | f + 1 => (pEat [45]).bind fun b => if b = true then (pUnary f).bind fun e => P.ret (withE 4 [e]) else
      (pEat [33]).bind fun b => if b = true then (pUnary f).bind fun e => P.ret (withE 20 [e]) else pPrimary f
def pPrimary : Nat → P Ex
  | 0 => fun _ => none
  | f + 1 => fun s =>
    if (hd s).kind = 3 ∨ (hd s).kind = 4 then (pPass.bind fun t => P.ret (.mk 1 t 0 [])) s
    else if (hd s).kind = 1 then (pPass.bind fun t => (pEat [91]).bind fun b => if b = true then (pExpr f 0).bind fun e => (pMust [[93]]).bind fun _ => P.ret (.mk 3 t 0 [e]) else P.ret (.mk 2 t 0 [])) s
    else if isOf [[40]] s = true then pWithin f s
    else ((pEat [115, 113, 114, 116]).bind fun b => if b = true then (pWithin f).bind fun e => P.ret (withE 6 [e]) else
      (pEat [97, 98, 115]).bind fun b => if b = true then (pWithin f).bind fun e => P.ret (withE 5 [e]) else
      pCastW (pWithin f)) s
def pWithin : Nat → P Ex
  | 0 => fun _ => none
  | f + 1 => (pMust [[40]]).bind fun _ => pIn.bind fun _ => (pExpr f 0).bind fun e => (pMust [[41]]).bind fun _ => pOut.bind fun _ => P.ret e
end
def pNumeral : P Ex := (pTake [3, 4]).bind fun t => P.ret (.mk 1 t 0 [])
def pBound : P Ex := (pEat [45]).bind fun b => if b = true then pNumeral.bind fun e => P.ret (withE 4 [e]) else pNumeral
def pCondition (f : Nat) : P Ex := (pMust [[40]]).bind fun _ => (pExpr f 0).bind fun e => (pMust [[41]]).bind fun _ => P.ret e
mutual
def pStmt : Nat → P St
  | 0 => fun _ => none
  | f + 1 => (pEat [114, 101, 97, 100]).bind fun b => if b = true then
      (pTake [1]).bind fun n => (pMust [[105, 110], [91]]).bind fun _ => pBound.bind fun l => (pMust [[44]]).bind fun _ => pBound.bind fun h => (pMust [[93], [59]]).bind fun _ => P.ret (.mk 2 n [] .no l h [] [])
    else (pEat [105, 102]).bind fun b => if b = true then
      (pCondition f).bind fun e => (pBlock f).bind fun t => (pEat [101, 108, 115, 101]).bind fun b => if b = true then (pBlock f).bind fun u => P.ret (.mk 3 [] [] e .no .no t u) else P.ret (.mk 3 [] [] e .no .no t [])
    else (pEat [119, 104, 105, 108, 101]).bind fun b => if b = true then
      (pCondition f).bind fun e => (pBlock f).bind fun t => P.ret (.mk 4 [] [] e .no .no t [])
    else (pTake [1]).bind fun n => (pEat [91]).bind fun b => if b = true then
      (pExpr f 0).bind fun i => (pMust [[93]]).bind fun _ => (pMust [[61]]).bind fun _ => (pExpr f 0).bind fun e => (pMust [[59]]).bind fun _ => P.ret (.mk 1 n [i] e .no .no [] [])
    else (pMust [[61]]).bind fun _ => (pExpr f 0).bind fun e => (pMust [[59]]).bind fun _ => P.ret (.mk 1 n [] e .no .no [] [])
def pBlock : Nat → P (List St)
  | 0 => fun _ => none
  | f + 1 => (pMust [[123]]).bind fun _ => pStmts f []
def pStmts : Nat → List St → P (List St)
  | 0, _ => fun _ => none
  | f + 1, acc => (pEat [125]).bind fun b => if b = true then P.ret acc else (pStmt f).bind fun x => pStmts f (acc ++ [x])
end
end

/-! What the parser leaves is less than what it had. -/
section
set_option linter.unusedVariables false
set_option linter.unusedSimpArgs false
open Go.RowKit

def PLe {α : Type} (m : P α) : Prop := ∀ s a s', m s = some (.ok a s') → s'.toks.length ≤ s.toks.length
def PLt {α : Type} (m : P α) : Prop := ∀ s a s', m s = some (.ok a s') → s'.toks.length < s.toks.length
theorem PLt.le {α : Type} {m : P α} (h : PLt m) : PLe m := fun s a s' e => Nat.le_of_lt (h s a s' e)
theorem ple_ret {α : Type} (a : α) : PLe (P.ret a) := by
  intro s b s' h
  injection h with h
  injection h with _ h
  subst h
  exact Nat.le_refl _
theorem plt_fail {α : Type} : PLt (P.fail : P α) := by
  intro s b s' h
  injection h with h
  cases h
theorem ple_bind {α β : Type} {x : P α} {f : α → P β} (hx : PLe x) (hf : ∀ a, PLe (f a)) : PLe (x.bind f) := by
  intro s b s' h
  obtain ⟨q, hq, ⟨n, rfl, hr⟩ | ⟨a, s1, rfl, hr⟩⟩ := P.bind_some h
  · cases hr
  · exact Nat.le_trans (hf a _ _ _ hr) (hx _ _ _ hq)
theorem plt_bind {α β : Type} {x : P α} {f : α → P β} (hx : PLt x) (hf : ∀ a, PLe (f a)) : PLt (x.bind f) := by
  intro s b s' h
  obtain ⟨q, hq, ⟨n, rfl, hr⟩ | ⟨a, s1, rfl, hr⟩⟩ := P.bind_some h
  · cases hr
  · exact Nat.lt_of_le_of_lt (hf a _ _ _ hr) (hx _ _ _ hq)
theorem plt_bind2 {α β : Type} {x : P α} {f : α → P β} (hx : PLe x) (hf : ∀ a, PLt (f a)) : PLt (x.bind f) := by
  intro s b s' h
  obtain ⟨q, hq, ⟨n, rfl, hr⟩ | ⟨a, s1, rfl, hr⟩⟩ := P.bind_some h
  · cases hr
  · exact Nat.lt_of_lt_of_le (hf a _ _ _ hr) (hx _ _ _ hq)
theorem isOf_toks {ts : List (List UInt8)} {s : PS} (h : isOf ts s = true) : (drop1 s).toks.length < s.toks.length := by
  have : s.toks ≠ [] := by
    intro e
    simp [isOf, hd, e] at h
  have := List.length_pos_iff.2 this
  simp [drop1]
  omega
theorem ple_eat (t : List UInt8) : PLe (pEat t) := by
  intro s b s' h
  unfold pEat at h
  split at h
  · injection h with h; injection h with _ h; subst h; exact Nat.le_of_lt (isOf_toks (by assumption))
  · injection h with h; injection h with _ h; subst h; exact Nat.le_refl _
/-- What an eaten token leaves is less. -/
theorem eat_true {t : List UInt8} {s s' : PS} (h : pEat t s = some (.ok true s')) : s'.toks.length < s.toks.length := by
  unfold pEat at h
  split at h
  · injection h with h; injection h with _ h; subst h; exact isOf_toks (by assumption)
  · injection h with h; injection h with h _; cases h
theorem plt_if {β : Type} (t : List UInt8) {x y : P β} (hx : PLe x) (hy : PLt y) : PLt ((pEat t).bind fun b => if b = true then x else y) := by
  intro s b s' h
  obtain ⟨q, hq, ⟨n, rfl, hr⟩ | ⟨a, s1, rfl, hr⟩⟩ := P.bind_some h
  · cases hr
  · cases a with
    | true => simp only [if_true] at hr; exact Nat.lt_of_le_of_lt (hx _ _ _ hr) (eat_true hq)
    | false => simp only [if_neg (show ¬ (false = true) by simp)] at hr; exact Nat.lt_of_lt_of_le (hy _ _ _ hr) (ple_eat t _ _ _ hq)
theorem ple_if {β : Type} (t : List UInt8) {x y : P β} (hx : PLe x) (hy : PLe y) : PLe ((pEat t).bind fun b => if b = true then x else y) :=
  ple_bind (ple_eat t) fun b => by cases b <;> simpa
theorem ple_must : ∀ l, PLe (pMust l)
  | [] => ple_ret ()
  | t :: r => ple_if t (ple_must r) plt_fail.le
theorem plt_must (t : List UInt8) (r : List (List UInt8)) : PLt (pMust (t :: r)) := plt_if t (ple_must r) plt_fail
theorem pass_lt {s : PS} {a : List UInt8} {s' : PS} (h : pPass s = some (.ok a s')) (hk : (hd s).kind ≠ 0) : s'.toks.length < s.toks.length := by
  injection h with h; injection h with _ h
  subst h
  have : s.toks ≠ [] := by
    intro e
    exact hk (by simp [hd, e])
  have := List.length_pos_iff.2 this
  simp [drop1]
  omega
theorem ple_pass : PLe pPass := by
  intro s a s' h
  injection h with h; injection h with _ h
  subst h
  simp [drop1]
theorem plt_take (ks : List Int) (h0 : ks.contains 0 = false) : PLt (pTake ks) := by
  intro s a s' h
  unfold pTake at h
  split at h
  · rename_i hk
    exact pass_lt h (by intro e; rw [e, h0] at hk; cases hk)
  · injection h with h; cases h
theorem ple_in : PLe pIn := by
  intro s a s' h
  injection h with h; injection h with _ h
  subst h
  exact Nat.le_refl _
theorem ple_out : PLe pOut := by
  intro s a s' h
  injection h with h; injection h with _ h
  subst h
  exact Nat.le_refl _
theorem none_lt {α : Type} : PLt (fun _ => none : P α) := by intro s a s' h; cases h
/-- A token of this kind goes by, and then.. -/
theorem plt_pass {β : Type} {f : List UInt8 → P β} (hf : ∀ a, PLe (f a)) {s : PS} (hk : (hd s).kind ≠ 0) {b : β} {s' : PS} (h : pPass.bind f s = some (.ok b s')) : s'.toks.length < s.toks.length := by
  obtain ⟨q, hq, ⟨n, rfl, hr⟩ | ⟨a, s1, rfl, hr⟩⟩ := P.bind_some h
  · cases hr
  · exact Nat.lt_of_le_of_lt (hf a _ _ _ hr) (pass_lt hq hk)
theorem isOf_kind {ts : List (List UInt8)} {s : PS} (h : isOf ts s = true) : (hd s).kind ≠ 0 := by
  intro e
  simp [isOf, e] at h
theorem plt_cast {x : P Ex} (hx : PLe x) : PLt (pCastW x) := by
  intro s a s' h
  unfold pCastW at h
  split at h
  · exact plt_pass (fun t => ple_bind hx fun e => ple_ret _) (isOf_kind (by assumption)) h
  · injection h with h; cases h
theorem lens (f : Nat) : (∀ l, PLt (pExpr f l)) ∧ (∀ l e, PLe (pRest f l e)) ∧ PLt (pUnary f) ∧ PLt (pPrimary f) ∧ PLt (pWithin f) := by
  induction f with
  | zero =>
    refine ⟨fun l => ?_, fun l e => ?_, ?_, ?_, ?_⟩
    · unfold pExpr; exact none_lt
    · unfold pRest; exact none_lt.le
    · unfold pUnary; exact none_lt
    · unfold pPrimary; exact none_lt
    · unfold pWithin; exact none_lt
  | succ f ih =>
    obtain ⟨h1, h2, h3, h4, h5⟩ := ih
    refine ⟨fun l => ?_, fun l e => ?_, ?_, ?_, ?_⟩
    · unfold pExpr
      split
      · exact h3
      · exact plt_bind (h1 _) fun e => h2 _ _
    · unfold pRest
      intro s a s' h
      simp only at h
      split at h
      · exact ple_bind ple_pass (fun t => ple_bind (h1 _).le fun e2 => h2 _ _) _ _ _ h
      · injection h with h; injection h with _ h; subst h; exact Nat.le_refl _
    · unfold pUnary
      exact plt_if _ (ple_bind h3.le fun e => ple_ret _) (plt_if _ (ple_bind h3.le fun e => ple_ret _) h4)
    · unfold pPrimary
      intro s a s' h
      simp only at h
      split at h
      · rename_i hk
        exact plt_pass (fun t => ple_ret _) (by rcases hk with hk | hk <;> rw [hk] <;> simp) h
      · split at h
        · rename_i hk
          exact plt_pass (fun t => ple_if _ (ple_bind (h1 _).le fun e => ple_bind (ple_must _) fun _ => ple_ret _) (ple_ret _)) (by rw [hk]; simp) h
        · split at h
          · exact h5 _ _ _ h
          · exact plt_if _ (ple_bind h5.le fun e => ple_ret _) (plt_if _ (ple_bind h5.le fun e => ple_ret _) (plt_cast h5.le)) _ _ _ h
    · unfold pWithin
      exact plt_bind (plt_must _ _) fun _ => ple_bind ple_in fun _ => ple_bind (h1 _).le fun e => ple_bind (ple_must _) fun _ => ple_bind ple_out fun _ => ple_ret _
theorem plt_numeral : PLt pNumeral := plt_bind (plt_take _ (by decide)) fun t => ple_ret _
theorem plt_bound : PLt pBound := plt_if _ (ple_bind plt_numeral.le fun e => ple_ret _) plt_numeral
theorem plt_condition (f : Nat) : PLt (pCondition f) := plt_bind (plt_must _ _) fun _ => ple_bind ((lens f).1 _).le fun e => ple_bind (ple_must _) fun _ => ple_ret _
theorem lenS (f : Nat) : PLt (pStmt f) ∧ PLt (pBlock f) ∧ ∀ acc, PLe (pStmts f acc) := by
  induction f with
  | zero =>
    refine ⟨?_, ?_, fun acc => ?_⟩
    · unfold pStmt; exact none_lt
    · unfold pBlock; exact none_lt
    · unfold pStmts; exact none_lt.le
  | succ f ih =>
    obtain ⟨h1, h2, h3⟩ := ih
    have hE := ((lens f).1 0)
    refine ⟨?_, ?_, fun acc => ?_⟩
    · unfold pStmt
      refine plt_if _ (ple_bind (plt_take _ (by decide)).le fun n => ple_bind (ple_must _) fun _ => ple_bind plt_bound.le fun l => ple_bind (ple_must _) fun _ => ple_bind plt_bound.le fun h => ple_bind (ple_must _) fun _ => ple_ret _) ?_
      refine plt_if _ (ple_bind (plt_condition f).le fun e => ple_bind h2.le fun t => ple_if _ (ple_bind h2.le fun u => ple_ret _) (ple_ret _)) ?_
      refine plt_if _ (ple_bind (plt_condition f).le fun e => ple_bind h2.le fun t => ple_ret _) ?_
      exact plt_bind (plt_take _ (by decide)) fun n => ple_if _ (ple_bind hE.le fun i => ple_bind (ple_must _) fun _ => ple_bind (ple_must _) fun _ => ple_bind hE.le fun e => ple_bind (ple_must _) fun _ => ple_ret _) (ple_bind (ple_must _) fun _ => ple_bind hE.le fun e => ple_bind (ple_must _) fun _ => ple_ret _)
    · unfold pBlock
      exact plt_bind (plt_must _ _) fun _ => h3 _
    · unfold pStmts
      exact ple_if _ (ple_ret _) (ple_bind h1.le fun x => h3 _)
end

/-! The parser of whole programs, in plain words. -/
section
set_option linter.unusedVariables false
set_option linter.unusedSimpArgs false
open Go.RowKit

/-- strconv.Atoi: the number; is there an error? -/
def atoiP (t : List UInt8) : Int × Bool :=
  match Lib.atoiAll t with
  | .ok v => (v, false)
  | .range => (Lib.atoiSat t, true)
  | _ => (0, true)
def pOdd (t : List UInt8) : P Int := fun s => some (.ok (atoiP t).1 { s with odd := s.odd || (atoiP t).2 || decide ((atoiP t).1 < 1) || decide ((64 : Int) < (atoiP t).1) })
def pDecl : P De := pPass.bind fun ty => (pTake [1]).bind fun n => (pEat [91]).bind fun b => if b = true then
    (pTake [3]).bind fun t => (pOdd t).bind fun c => (pMust [[93]]).bind fun _ => (pMust [[59]]).bind fun _ => P.ret ⟨n, typeOf ty, c⟩
  else (pMust [[59]]).bind fun _ => P.ret ⟨n, typeOf ty, 0⟩
def pDecls : Nat → List De → P (List De)
  | 0, _ => fun _ => none
  | f + 1, acc => fun s => if isOf typesL s = true then (pDecl.bind fun d => pDecls f (acc ++ [d])) s else some (.ok acc s)
def pBody (f : Nat) : Nat → List St → P (List St)
  | 0, _ => fun _ => none
  | k + 1, acc => fun s => if s.toks = [] then some (.ok acc s) else ((pStmt f).bind fun x => pBody f k (acc ++ [x])) s
def pWhole (f : Nat) : P Pg := (pDecls f []).bind fun ds => (pBody f f []).bind fun b => P.ret ⟨ds, b⟩
def ps0 (ts : List Tok) : PS := ⟨ts, 0, 0, false⟩

/-! Enough fuel: each of them comes to an end. -/
def Ends {α : Type} (m : P α) (s : PS) : Prop := ∃ r, m s = some r
theorem ends_ret {α : Type} (a : α) (s : PS) : Ends (P.ret a) s := ⟨_, rfl⟩
theorem ends_fail {α : Type} (s : PS) : Ends (P.fail : P α) s := ⟨_, rfl⟩
theorem ends_bind {α β : Type} {x : P α} {f : α → P β} {s : PS} (hx : Ends x s) (hf : ∀ a s1, x s = some (.ok a s1) → Ends (f a) s1) : Ends (x.bind f) s := by
  obtain ⟨r, hr⟩ := hx
  unfold Ends P.bind
  rw [hr]
  cases r with
  | bad n => exact ⟨_, rfl⟩
  | ok a s1 => exact hf a s1 hr
theorem ends_eat (t : List UInt8) (s : PS) : Ends (pEat t) s := by
  unfold Ends pEat
  split <;> exact ⟨_, rfl⟩
theorem ends_if {β : Type} (t : List UInt8) {x y : P β} {s : PS} (hx : ∀ s1, s1.toks.length < s.toks.length → Ends x s1) (hy : Ends y s) : Ends ((pEat t).bind fun b => if b = true then x else y) s := by
  unfold Ends P.bind pEat
  cases h : isOf [t] s with
  | true => simp only [if_true]; exact hx _ (isOf_toks h)
  | false => simp only [if_neg (show ¬ (false = true) by simp)]; exact hy
theorem ends_must : ∀ l s, Ends (pMust l) s
  | [], s => ends_ret _ _
  | t :: r, s => ends_if t (fun s1 _ => ends_must r s1) (ends_fail _)
theorem ends_take (ks : List Int) (s : PS) : Ends (pTake ks) s := by
  unfold Ends pTake
  split
  · exact ⟨_, rfl⟩
  · exact ⟨_, rfl⟩
theorem ends_cast {x : P Ex} {s : PS} (hx : ∀ s1, s1.toks.length < s.toks.length → Ends x s1) : Ends (pCastW x) s := by
  unfold Ends pCastW
  split
  · rename_i h
    exact hx _ (isOf_toks h) |> fun h1 => ends_bind (x := pPass) ⟨_, rfl⟩ fun a s1 e => by
      injection e with e; injection e with _ e; subst e
      exact ends_bind h1 fun _ _ _ => ends_ret _ _
  · exact ⟨_, rfl⟩
theorem pass_ends {β : Type} {f : List UInt8 → P β} {s : PS} (hk : (hd s).kind ≠ 0) (h : ∀ a s1, s1.toks.length < s.toks.length → Ends (f a) s1) : Ends (pPass.bind f) s :=
  ends_bind ⟨_, rfl⟩ fun a s1 e => h a s1 (pass_lt e hk)
theorem enough (f : Nat) : (∀ l s, l ≤ 5 → 16 * s.toks.length + 10 - l < f → Ends (pExpr f l) s) ∧ (∀ l e s, l < 5 → 16 * s.toks.length + 1 < f → Ends (pRest f l e) s) ∧
    (∀ s, 16 * s.toks.length + 4 < f → Ends (pUnary f) s) ∧ (∀ s, 16 * s.toks.length + 3 < f → Ends (pPrimary f) s) ∧ (∀ s, 16 * s.toks.length + 2 < f → Ends (pWithin f) s) := by
  induction f with
  | zero => refine ⟨fun l s _ h => by omega, fun l e s _ h => by omega, fun s h => by omega, fun s h => by omega, fun s h => by omega⟩
  | succ f ih =>
    obtain ⟨h1, h2, h3, h4, h5⟩ := ih
    refine ⟨fun l s hl h => ?_, fun l e s hl h => ?_, fun s h => ?_, fun s h => ?_, fun s h => ?_⟩
    · unfold pExpr
      split
      · exact h3 s (by omega)
      · refine ends_bind (h1 (l + 1) s (by omega) (by omega)) fun a s1 e => h2 l a s1 (by omega) ?_
        have := (lens f).1 _ _ _ _ e
        omega
    · unfold pRest
      show ∃ r, _ = some r
      simp only
      split
      · rename_i hi
        refine pass_ends (isOf_kind hi) fun a s1 hlt => ends_bind (h1 (l + 1) s1 (by omega) (by omega)) fun b s2 e2 => h2 _ _ _ hl ?_
        have := (lens f).1 _ _ _ _ e2
        omega
      · exact ⟨_, rfl⟩
    · unfold pUnary
      exact ends_if _ (fun s1 hlt => ends_bind (h3 s1 (by omega)) fun _ _ _ => ends_ret _ _) (ends_if _ (fun s1 hlt => ends_bind (h3 s1 (by omega)) fun _ _ _ => ends_ret _ _) (h4 s (by omega)))
    · unfold pPrimary
      show ∃ r, _ = some r
      simp only
      split
      · exact ⟨_, rfl⟩
      · split
        · rename_i hk
          exact pass_ends (by rw [hk]; simp) fun a s1 hlt => ends_if _ (fun s2 hlt2 => ends_bind (h1 0 s2 (by omega) (by omega)) fun _ _ _ => ends_bind (ends_must _ _) fun _ _ _ => ends_ret _ _) (ends_ret _ _)
        · split
          · exact h5 s (by omega)
          · exact ends_if _ (fun s1 hlt => ends_bind (h5 s1 (by omega)) fun _ _ _ => ends_ret _ _) (ends_if _ (fun s1 hlt => ends_bind (h5 s1 (by omega)) fun _ _ _ => ends_ret _ _) (ends_cast fun s1 hlt => h5 s1 (by omega)))
    · unfold pWithin
      refine ends_bind (ends_must _ _) fun a s1 e1 => ends_bind ⟨_, rfl⟩ fun b s2 e2 => ?_
      have hl1 := plt_must _ _ _ _ _ e1
      have hl2 := ple_in _ _ _ e2
      exact ends_bind (h1 0 s2 (by omega) (by omega)) fun _ _ _ => ends_bind (ends_must _ _) fun _ _ _ => ends_bind ⟨_, rfl⟩ fun _ _ _ => ends_ret _ _
theorem ends_expr0 {f : Nat} {s : PS} (h : 16 * s.toks.length + 10 < f) : Ends (pExpr f 0) s := (enough f).1 0 s (by omega) h
theorem ends_numeral (s : PS) : Ends pNumeral s := ends_bind (ends_take _ _) fun _ _ _ => ends_ret _ _
theorem ends_bound (s : PS) : Ends pBound s := ends_if _ (fun s1 _ => ends_bind (ends_numeral _) fun _ _ _ => ends_ret _ _) (ends_numeral _)
theorem ends_condition {f : Nat} {s : PS} (h : 16 * s.toks.length + 2 < f + 8) : Ends (pCondition f) s :=
  ends_bind (ends_must _ _) fun _ s1 e1 => ends_bind (ends_expr0 (by have := plt_must _ _ _ _ _ e1; omega)) fun _ _ _ => ends_bind (ends_must _ _) fun _ _ _ => ends_ret _ _
theorem enoughS (f : Nat) : (∀ s, 16 * s.toks.length + 2 < f → Ends (pStmt f) s) ∧ (∀ s, 16 * s.toks.length + 2 < f → Ends (pBlock f) s) ∧ (∀ acc s, 16 * s.toks.length + 3 < f → Ends (pStmts f acc) s) := by
  induction f with
  | zero => refine ⟨fun s h => by omega, fun s h => by omega, fun acc s h => by omega⟩
  | succ f ih =>
    obtain ⟨h1, h2, h3⟩ := ih
    refine ⟨fun s h => ?_, fun s h => ?_, fun acc s h => ?_⟩
    · unfold pStmt
      refine ends_if _ (fun s1 _ => ends_bind (ends_take _ _) fun _ _ _ => ends_bind (ends_must _ _) fun _ _ _ => ends_bind (ends_bound _) fun _ _ _ => ends_bind (ends_must _ _) fun _ _ _ => ends_bind (ends_bound _) fun _ _ _ => ends_bind (ends_must _ _) fun _ _ _ => ends_ret _ _) ?_
      refine ends_if _ (fun s1 hl => ends_bind (ends_condition (by omega)) fun _ s2 e2 => ?_) ?_
      · have l2 := plt_condition f _ _ _ e2
        refine ends_bind (h2 s2 (by omega)) fun _ s3 e3 => ?_
        have l3 := (lenS f).2.1 _ _ _ e3
        exact ends_if _ (fun s4 l4 => ends_bind (h2 s4 (by omega)) fun _ _ _ => ends_ret _ _) (ends_ret _ _)
      refine ends_if _ (fun s1 hl => ends_bind (ends_condition (by omega)) fun _ s2 e2 => ?_) ?_
      · have l2 := plt_condition f _ _ _ e2
        exact ends_bind (h2 s2 (by omega)) fun _ s3 e3 => ends_ret _ _
      refine ends_bind (ends_take _ _) fun _ s1 e1 => ?_
      have l1 := plt_take [1] (by decide) _ _ _ e1
      refine ends_if _ (fun s2 l2 => ends_bind (ends_expr0 (by omega)) fun _ s3 e3 => ends_bind (ends_must _ _) fun _ s4 e4 => ends_bind (ends_must _ _) fun _ s5 e5 => ?_) (ends_bind (ends_must _ _) fun _ s5 e5 => ?_)
      · have l3 := (lens f).1 _ _ _ _ e3
        have l4 := ple_must _ _ _ _ e4
        have l5 := ple_must _ _ _ _ e5
        exact ends_bind (ends_expr0 (by omega)) fun _ _ _ => ends_bind (ends_must _ _) fun _ _ _ => ends_ret _ _
      · have l5 := ple_must _ _ _ _ e5
        exact ends_bind (ends_expr0 (by omega)) fun _ _ _ => ends_bind (ends_must _ _) fun _ _ _ => ends_ret _ _
    · unfold pBlock
      exact ends_bind (ends_must _ _) fun _ s1 e1 => h3 _ s1 (by have := plt_must _ _ _ _ _ e1; omega)
    · unfold pStmts
      refine ends_if _ (fun s1 _ => ends_ret _ _) (ends_bind (h1 s (by omega)) fun _ s2 e2 => h3 _ s2 ?_)
      have := (lenS f).1 _ _ _ e2
      omega
theorem plt_decl_body (ty : List UInt8) : PLt ((pTake [1]).bind fun n => (pEat [91]).bind fun b => if b = true then
    (pTake [3]).bind fun t => (pOdd t).bind fun c => (pMust [[93]]).bind fun _ => (pMust [[59]]).bind fun _ => P.ret (De.mk n (typeOf ty) c)
  else (pMust [[59]]).bind fun _ => P.ret (De.mk n (typeOf ty) 0)) :=
  plt_bind (plt_take _ (by decide)) fun n => ple_if _ (ple_bind (plt_take _ (by decide)).le fun t => ple_bind (by intro s a s' h; injection h with h; injection h with _ h; subst h; exact Nat.le_refl _) fun c => ple_bind (ple_must _) fun _ => ple_bind (ple_must _) fun _ => ple_ret _) (ple_bind (ple_must _) fun _ => ple_ret _)
theorem plt_decl : PLt pDecl := plt_bind2 ple_pass plt_decl_body
theorem ends_decl (s : PS) : Ends pDecl s :=
  ends_bind ⟨_, rfl⟩ fun _ _ _ => ends_bind (ends_take _ _) fun _ _ _ => ends_if _ (fun _ _ => ends_bind (ends_take _ _) fun _ _ _ => ends_bind ⟨_, rfl⟩ fun _ _ _ => ends_bind (ends_must _ _) fun _ _ _ => ends_bind (ends_must _ _) fun _ _ _ => ends_ret _ _) (ends_bind (ends_must _ _) fun _ _ _ => ends_ret _ _)
theorem ple_decls (f : Nat) : ∀ acc, PLe (pDecls f acc) := by
  induction f with
  | zero => intro acc; exact none_lt.le
  | succ f ih =>
    intro acc s a s' h
    simp only [pDecls] at h
    split at h
    · exact ple_bind plt_decl.le (fun d => ih _) _ _ _ h
    · injection h with h; injection h with _ h; subst h; exact Nat.le_refl _
theorem ends_decls (f : Nat) : ∀ acc s, s.toks.length < f → Ends (pDecls f acc) s := by
  induction f with
  | zero => intro acc s h; omega
  | succ f ih =>
    intro acc s h
    unfold pDecls
    show ∃ r, _ = some r
    simp only
    split
    · exact ends_bind (ends_decl s) fun _ s1 e1 => ih _ s1 (by have := plt_decl _ _ _ e1; omega)
    · exact ⟨_, rfl⟩
theorem ends_body (f k : Nat) : ∀ acc s, s.toks.length < k → 16 * s.toks.length + 2 < f → Ends (pBody f k acc) s := by
  induction k with
  | zero => intro acc s h; omega
  | succ k ih =>
    intro acc s h hf
    unfold pBody
    show ∃ r, _ = some r
    simp only
    split
    · exact ⟨_, rfl⟩
    · exact ends_bind ((enoughS f).1 s hf) fun _ s1 e1 => by
        have := (lenS f).1 _ _ _ e1
        exact ih _ s1 (by omega) (by omega)
/-- With this much fuel all comes to an end. -/
def fuelOf (ts : List Tok) : Nat := 16 * ts.length + 20
theorem ends_whole (ts : List Tok) : Ends (pWhole (fuelOf ts)) (ps0 ts) :=
  ends_bind (ends_decls _ _ _ (by simp [ps0, fuelOf]; omega)) fun _ s1 e1 => by
    have := ple_decls _ _ _ _ _ e1
    exact ends_bind (ends_body _ _ _ _ (by simp [ps0, fuelOf] at *; omega) (by simp [ps0, fuelOf] at *; omega)) fun _ _ _ => ends_ret _ _
end
end Go.Proofs.YtokdcfehnhifhaaGreatDoor
