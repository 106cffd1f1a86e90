/- How lists in memory are read: a slice whose cells are known. -/
import Derived.WalkKit
import Derived.Below
import Derived.Lib.Hide
import Derived.Deep.WholeRow
set_option linter.unusedVariables false
set_option linter.unusedSimpArgs false
namespace Go.Proofs.Ytmdaedeagiamkaa
open Go.RowKit

/-- A slice of n elements, each of so many cells, holds these cells, wherever it lies. -/
def RdAt (w : World) (v : Value) (n size : Nat) (cells : List Value) : Prop :=
  cells.length = n * size ∧ n ≤ 140737488355328 ∧
  ((n = 0 ∧ ∃ A c, v = .slice A 0 c) ∨
   ∃ b off c, v = .slice (some ⟨b, off, none⟩) n c ∧ n ≤ c ∧ b < w.heap.size ∧ ∀ j u, cells[j]? = some u → w.cell? ⟨b, off + j, none⟩ = some u)

theorem RdAt.below {w w' : World} {v : Value} {n size : Nat} {cells : List Value} (h : RdAt w v n size cells) (hb : Below w.heap.size w w') : RdAt w' v n size cells := by
  obtain ⟨h1, h2, h3⟩ := h
  refine ⟨h1, h2, ?_⟩
  rcases h3 with h3 | ⟨b, off, c, hv, hle, hlt, hc⟩
  · exact Or.inl h3
  · refine Or.inr ⟨b, off, c, hv, hle, Nat.lt_of_lt_of_le hlt hb.size, fun j u hj => ?_⟩
    rw [hb.cell (p := ⟨b, off + j, none⟩) hlt]
    exact hc j u hj
theorem RdAt.slice {w : World} {v : Value} {n size : Nat} {cells : List Value} (h : RdAt w v n size cells) : ∃ A c, v = .slice A n c := by
  rcases h.2.2 with ⟨rfl, A, c, hv⟩ | ⟨b, off, c, hv, _⟩
  · exact ⟨A, c, hv⟩
  · exact ⟨_, c, hv⟩
/-- A slice of at least one element: where it lies. -/
theorem RdAt.pos {w : World} {v : Value} {n size : Nat} {cells : List Value} (h : RdAt w v n size cells) (hn : 0 < n) :
    ∃ b off c, v = .slice (some ⟨b, off, none⟩) n c ∧ n ≤ c ∧ b < w.heap.size ∧ ∀ j u, cells[j]? = some u → w.cell? ⟨b, off + j, none⟩ = some u := by
  rcases h.2.2 with ⟨h0, _⟩ | h1
  · omega
  · exact h1
theorem RdAt.nil (w : World) (A : Option Addr) (c size : Nat) : RdAt w (.slice A 0 c) 0 size [] := ⟨by simp, by omega, Or.inl ⟨rfl, A, c, rfl⟩⟩
theorem RdAt.of_own {w : World} {base : Nat} {e : TypeId} {size n : Nat} {v : Value} {cells : List Value} (h : w.ownsRow base e size v n cells) (hn : n ≤ 140737488355328) : RdAt w v n size cells := by
  refine ⟨h.1, hn, ?_⟩
  rcases h.2 with ⟨rfl, rfl⟩ | ⟨g, cap, cur, rfl, hg, hh, hle, hm, hs, ht⟩
  · exact Or.inl ⟨rfl, none, 0, rfl⟩
  · refine Or.inr ⟨g, 0, cap, rfl, hle, (Array.getElem?_eq_some_iff.1 hh).1, fun j u hj => ?_⟩
    have := h.cells (g := g) rfl j u hj
    have ha : (⟨g, 0, none⟩ : Addr).add j = ⟨g, 0 + j, none⟩ := by unfold Addr.add; split <;> simp_all
    rwa [ha] at this
theorem string_ext {a b : ByteArray} (h : a.data.toList = b.data.toList) : a = b := by
  obtain ⟨⟨a⟩⟩ := a
  obtain ⟨⟨b⟩⟩ := b
  simp at h
  rw [h]
theorem string_mk (a : ByteArray) : a = ⟨a.data.toList.toArray⟩ := by simp
theorem str_ne {s : ByteArray} (h : 1 ≤ s.size) : s.toList.isEmpty = false := by
  rw [ByteArray.toList_eq]
  obtain ⟨⟨l⟩⟩ := s
  cases l with
  | nil => simp [ByteArray.size] at h
  | cons c l => rfl
theorem str_ne' {s : ByteArray} (h : 1 ≤ s.size) : ¬ s.data.toList = [] := by
  obtain ⟨⟨l⟩⟩ := s
  cases l with
  | nil => simp [ByteArray.size] at h
  | cons c l => simp
theorem str_nil {s : ByteArray} (h : s.size = 0) : s = ⟨#[]⟩ := by
  obtain ⟨⟨l⟩⟩ := s
  cases l with
  | nil => rfl
  | cons c l => simp [ByteArray.size] at h
/-- A text as a value. -/
abbrev strV (l : List UInt8) : Value := .string ⟨l.toArray⟩
theorem strV_eq {a : ByteArray} {l : List UInt8} (h : a.data.toList = l) : (.string a : Value) = strV l := by
  rw [strV, ← h]
theorem bcell {W w1 : World} (hb : Below W.heap.size W w1) : (∀ b o, b < W.heap.size → w1.cell? ⟨b, o, none⟩ = W.cell? ⟨b, o, none⟩) ∧ (∀ b o, b < W.heap.size → w1.frozen? ⟨b, o, none⟩ = W.frozen? ⟨b, o, none⟩) :=
  ⟨fun b o h => hb.cell (p := ⟨b, o, none⟩) h, fun b o h => hb.frozen (p := ⟨b, o, none⟩) h⟩
theorem Below.then {B : Nat} {w w1 w2 : World} (h : Below B w w1) (hB : B ≤ w1.heap.size) (k : Below w1.heap.size w1 w2) : Below B w w2 :=
  h.trans (k.mono hB)
theorem below2 {w w1 w2 : World} (h : Below w.heap.size w w1) (k : Below w1.heap.size w1 w2) : Below w.heap.size w w2 := h.trans (k.mono h.size)
theorem grownBy_of_below {w w' : World} (h : Below w.heap.size w w') : w.grownBy w' none :=
  ⟨h.os, h.tape, h.output, h.size, fun k hk _ => h.block k hk⟩
theorem own_kept {w w' : World} {base : Nat} {e : TypeId} {size n : Nat} {v : Value} {cells : List Value} (h : w.ownsRow base e size v n cells) (hb : Below w.heap.size w w') : w'.ownsRow base e size v n cells :=
  h.kept (grownBy_of_below hb) (by cases v.ownBlock <;> simp)
theorem own_shape {w : World} {base : Nat} {e : TypeId} {size n : Nat} {v : Value} {cells : List Value} (h : w.ownsRow base e size v n cells) : ∃ A c, v = .slice A n c := by
  rcases h.2 with ⟨rfl, rfl⟩ | ⟨g, cap, cur, rfl, _⟩
  · exact ⟨none, 0, rfl⟩
  · exact ⟨_, cap, rfl⟩
theorem add_mk (b o j : Nat) : (⟨b, o, none⟩ : Addr).add j = ⟨b, o + j, none⟩ := by unfold Addr.add; split <;> simp_all

/-- 'xs = append(xs, x)' at a row of the call's own, x being a literal of one element. -/
theorem append_lit (W : World) (news : Array Value) (e : TypeId) {P : Program} {W0 : World} {ops : Array Oper} {rest : List Oper} {o : Oper} {a : Act} {Q : Exit → Act → World → Prop} (hgd : o.guard = none) (s x : Operand) (t : TypeId)
    (ho : o.op = .call { callee := .builtin .append, args := #[s, x], argTypes := #[t, t] })
    (base : Nat) (i : TypeInfo) (z : Value) (size bytes : Nat) (ht : P.underlying t = some (.slice e)) (hi : P.info? e = some i) (hz : i.zero = some z)
    (hsize : i.size = size) (hby : i.bytes = bytes) (hzs : z.cells.size = size) (hsz : 0 < size)
    (v : Value) (n : Nat) (xs : List Value) (hs : a.eval s = v) (hown : W.ownsRow base e size v n xs)
    (c B1 : Nat) (hx : a.eval x = .slice (some ⟨B1, 0, none⟩) 1 c) (hB1 : B1 = W.heap.size) (hl : news.size = size) (h1 : (news.toList.all fun u => u.oneCell') = true)
    (hn : n < 1048576) (hbytes : bytes ≤ 134217728) (hbase : base ≤ W.heap.size) (hbel : Below base W0 W)
    (h : ∀ v' w', w'.ownsRow base e size v' (n + 1) (xs ++ news.toList) → W.grownBy w' v.ownBlock → Below base W0 w' → wpList P ops Q rest (a.put o.dst v') w') : wpList P ops Q (o :: rest) a (W.alloc (.cells news e)) := by
  subst hB1
  have hmul : (n + 1) * bytes ≤ 1048576 * 134217728 := Nat.mul_le_mul (by omega) hbytes
  refine wpList_append_own _ hgd s x t ho base e i z size bytes ht hi hz hsize hby hzs hsz v n xs hs (hown.alloc _) ⟨W.heap.size, 0, none⟩ 1 c news.toList hx (by simpa using hl) ?_ (fun u hu => List.all_eq_true.1 h1 u hu) (by unfold maxLen; omega) (by omega) (by simp; omega) ?_
  · intro j u hj
    rw [add_mk, Nat.zero_add, World.cell?_alloc_new]
    simpa using hj
  · intro v' w' hown' hg _
    have hg' : W.grownBy w' v.ownBlock := ⟨hg.os, hg.tape, hg.output, by have := hg.size; simp at this; omega, fun k hk hne => by
      rw [hg.block k (by simp; omega) hne, Below.heap_alloc _ _ _ hk]⟩
    exact h v' w' hown' hg' (hbel.grown hg' hbase (fun k hk => (hown.lt k hk).1))
/-- A whole row goes into the block that was made last. -/
theorem wpList_store_new (W : World) (c : Array Value) (ty : TypeId) {P : Program} {ops : Array Oper} {rest : List Oper} {o : Oper} {a : Act} {Q : Exit → Act → World → Prop} (hgd : o.guard = none) (x y : Operand) (ho : o.op = .store ty x y)
    (B1 : Nat) (c' : Array Value) (hx : a.eval x = .pointer (some ⟨B1, 0, none⟩)) (hB1 : B1 = W.heap.size) (hy : a.eval y = .agg c') (hi : (P.info? ty).map (·.size) = some c'.size) (hc : c.size = c'.size) (h1 : (c'.all fun u => u.oneCell') = true)
    (h : wpList P ops Q rest (a.put o.dst undef) (W.alloc (.cells c' ty))) : wpList P ops Q (o :: rest) a (W.alloc (.cells c ty)) := by
  subst hB1
  refine wpList_plain hgd fun K hK => ?_
  unfold Oper.wp execOp
  simp only [ho, hx, hy, Sem.run_bind, run_storeAt_new (P := P) W ty c c' hi hc h1, Result.andThen_ok]
  exact hK _ _ h
/-- A new block of cells: the world behind it gets a name. -/
theorem wp_named {P : Program} {c : Code} {Q : Exit → Act → World → Prop} {a : Act} {w : World} {cs : Array Value} {t : TypeId}
    (h : ∀ W, Below w.heap.size w W → (∀ j u, cs[j]? = some u → W.cell? ⟨w.heap.size, j, none⟩ = some u) → W.heap.size = w.heap.size + 1 → c.wp P Q a W) : c.wp P Q a (w.alloc (.cells cs t)) :=
  h _ ((Below.refl _ _).alloc (Nat.le_refl _) _) (fun j u hj => by rw [World.cell?_alloc_new]; exact hj) (by simp)
theorem toList_beq (a b : ByteArray) : (a.toList == b.toList) = decide (a.data.toList = b.data.toList) := by
  rw [ByteArray.toList_eq, ByteArray.toList_eq]
  rw [Bool.eq_iff_iff, decide_eq_true_eq, beq_iff_eq]
end Go.Proofs.Ytmdaedeagiamkaa
