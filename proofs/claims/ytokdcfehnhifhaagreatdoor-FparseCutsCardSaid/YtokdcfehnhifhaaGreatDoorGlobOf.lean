/- What the listed variables give: the library's two errors lie where they lie. -/
import Derived.Test.YtokdcfehnhifhaaGreatDoorRows
import Derived.Test.YtokdcfehnhifhaaGreatDoorPar1
import Derived.LaidMore
import Derived.LaidLaws
import Derived.Lay
set_option linter.unusedVariables false
set_option linter.unusedSimpArgs false
namespace Go.Proofs.YtokdcfehnhifhaaGreatDoor
open Go.RowKit

theorem err_type (n : String) (hn : n = "strconv.ErrSyntax" ∨ n = "strconv.ErrRange") {g : Nat} {t : TypeId} (h1 : Tryz.prog.globalNamed n = some g) (h2 : (Tryz.prog.globals[g]?).map (·.type) = some t) : t = 114 := by
  have h : ((Tryz.prog.globalNamed n).bind fun g => (Tryz.prog.globals[g]?).map (·.type)) = some 114 := by
    rcases hn with rfl | rfl <;> kernel_rfl
  rw [h1] at h
  simp only [Option.bind_some] at h
  rw [h2] at h
  exact Option.some.inj h
theorem var_lt {w : World} {n : String} {g : Nat} {cs : Array Value} (h1 : Tryz.prog.globalNamed n = some g) (h : w.var? Tryz.prog n = some cs) : g < w.heap.size := by
  unfold World.var? at h
  rw [h1] at h
  simp only [Option.bind_some] at h
  rcases Nat.lt_or_ge g w.heap.size with hl | hl
  · exact hl
  · rw [Array.getElem?_eq_none hl] at h
    simp at h
theorem glob_of_laid {W : World} (h : laidMetH Tryz.prog Rows.fparseParsesRow.laid W) : Glob W W.heap.size := by
  rw [MakeChecks.laidMetH_plain _ _ _ (by kernel_rfl)] at h
  obtain ⟨ps, hl, _, _⟩ := h
  obtain ⟨_, _, _, _, _, _, _, _, _, _, hl, _⟩ := hl
  obtain ⟨_, _, _, _, _, _, _, _, _, _, hl, _⟩ := hl
  obtain ⟨_, _, _, _, _, _, _, _, _, _, hl, _⟩ := hl
  obtain ⟨_, _, _, _, _, _, _, _, _, _, hl, _⟩ := hl
  obtain ⟨g2, t2, cs2, f2, p2, q2, n2, ty2, v2, d2, hl, _⟩ := hl
  obtain ⟨g1, t1, cs1, f1, p1, q1, n1, ty1, v1, d1, hl, _⟩ := hl
  obtain rfl := err_type _ (Or.inr rfl) n2 ty2
  obtain rfl := err_type _ (Or.inl rfl) n1 ty1
  obtain ⟨_, u2, x2, e2, _, _⟩ := iface_of_trod Tryz.underlying114 d2
  obtain ⟨_, u1, x1, e1, _, _⟩ := iface_of_trod Tryz.underlying114 d1
  refine ⟨g1, g2, u1, x1, u2, x2, n1, n2, var_lt n1 v1, var_lt n2 v2, ?_, ?_⟩
  · rw [v1, show cs1 = #[.iface u1 x1] from Array.ext' e1]
  · rw [v2, show cs2 = #[.iface u2 x2] from Array.ext' e2]
end Go.Proofs.YtokdcfehnhifhaaGreatDoor
