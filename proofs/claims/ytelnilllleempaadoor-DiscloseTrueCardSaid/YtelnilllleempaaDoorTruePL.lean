/- Whatever is verified is what the transcript has, or two inputs have one hash. No program in sight. -/
import Derived.Test.YtelnilllleempaaDoorSane42
import Derived.Test.YtelnilllleempaaDoorCollide
namespace Go.Proofs.YtelnilllleempaaDoor
set_option linter.all false
open Go Go.RowKit

theorem lineNs_inj (x y : Line) (hx : okLine x) (hy : okLine y) (h : lineNs x = lineNs y) : x = y := by
  obtain ⟨a, b, c, d, e⟩ := x
  obtain ⟨a', b', c', d', e'⟩ := y
  simp only [okLine] at hx hy
  simp only [lineNs, List.cons.injEq, and_true] at h
  simp only [Line.mk.injEq]
  omega
theorem true_lawL (base : Dig) (l : List Line) (hall : ∀ x ∈ l, okLine x) (hl : l.length ≤ 100000) (x : Line) (salt : Dig) (i : Int) (n : Nat) (hn : n = l.length) (P : List Dig)
    (hv : verL x salt i (n : Int) P (treeD (leavesL base l)) = true) :
    okLine x ∧ ∃ j : Nat, i = j ∧ j < n ∧ okLine (l.getD j zeroLine) ∧ P.length = (dirs n j).length ∧
      (x ≠ l.getD j zeroLine → salt.l ++ encB (lineNs x) ≠ (saltL base (l.getD j zeroLine)).l ++ encB (lineNs (l.getD j zeroLine))) ∧
      (lineD x salt ≠ lineD (l.getD j zeroLine) (saltL base (l.getD j zeroLine)) → meets (inputsL (lineD x salt) (sidesL n j) P) (inputsL (lineD (l.getD j zeroLine) (saltL base (l.getD j zeroLine))) (sidesL n j) (pathD (leavesL base l) j))) := by
  subst hn
  unfold verL climbR at hv
  rw [Bool.and_eq_true, decide_eq_true_eq] at hv
  obtain ⟨hok, hv⟩ := hv
  split at hv
  · rename_i y hy
    split at hy
    · rename_i hc
      obtain ⟨h1, h2, h3, h4, h5⟩ := hc
      cases hy
      obtain ⟨j, rfl⟩ := Int.eq_ofNat_of_zero_le h3
      simp only [Int.toNat_natCast] at h5 hv
      have hj : j < l.length := by omega
      have hoky : okLine (l.getD j zeroLine) := hall _ (by
        rw [List.getD_eq_getElem?_getD, List.getElem?_eq_getElem hj]; exact List.getElem_mem _)
      refine ⟨hok, j, rfl, hj, hoky, h5, fun hne he => hne ?_, fun hne => ?_⟩
      · have hlt1 := lineNs_lt x hok
        have hlt2 := lineNs_lt _ hoky
        have := salted_inj _ _ _ _ (by simp [lineNs]) (by simp [lineNs]) hlt1 hlt2 he
        exact lineNs_inj _ _ hok hoky this
      · have hlen : (leavesL base l).length = l.length := by simp [leavesL]
        have hpl := pathD_len (leavesL base l) j (by omega)
        have hct := climb_tree (leavesL base l) j (by omega) (by omega)
        have hg : (leavesL base l).getD j zeroDig = lineD (l.getD j zeroLine) (saltL base (l.getD j zeroLine)) := by
          simp [leavesL, List.getD_eq_getElem?_getD, List.getElem?_map, List.getElem?_eq_getElem hj]
        rw [hlen] at hpl hct
        rw [hg] at hct
        rw [decide_eq_true_eq] at hv
        exact climb_meets _ _ l.length j P _ h5 hpl hne (hv.trans hct.symm)
    · cases hy
  · cases hv
end Go.Proofs.YtelnilllleempaaDoor
