/- Whatever is verified is what the transcript has, or two inputs have one hash. No program in sight. -/
import Derived.Test.YtelnilllleempaaDoorSane42
import Derived.Test.YtelnilllleempaaDoorCollide
namespace Go.Proofs.YtelnilllleempaaDoor
set_option linter.all false
open Go Go.RowKit

theorem claimNs_inj (x y : Claim) (hx : okClaim x) (hy : okClaim y) (h : claimNs x = claimNs y) : x = y := by
  obtain ⟨a, b, c⟩ := x
  obtain ⟨a', b', c'⟩ := y
  simp only [okClaim] at hx hy
  simp only [claimNs, List.cons.injEq, and_true] at h
  obtain ⟨h1, h2, h3⟩ := h
  have : c = c' := by cases c <;> cases c' <;> simp_all
  subst this
  simp only [Claim.mk.injEq]
  exact ⟨by omega, by omega, trivial⟩
theorem true_lawC (base : Dig) (l : List Claim) (hall : ∀ x ∈ l, okClaim x) (hl : l.length ≤ 100000) (x : Claim) (salt : Dig) (i : Int) (n : Nat) (hn : n = l.length) (P : List Dig)
    (hv : verC x salt i (n : Int) P (treeD (leavesC base l)) = true) :
    okClaim x ∧ ∃ j : Nat, i = j ∧ j < n ∧ okClaim (l.getD j zeroClaim) ∧ P.length = (dirs n j).length ∧
      (x ≠ l.getD j zeroClaim → salt.l ++ encB (claimNs x) ≠ (saltC base (l.getD j zeroClaim)).l ++ encB (claimNs (l.getD j zeroClaim))) ∧
      (claimD x salt ≠ claimD (l.getD j zeroClaim) (saltC base (l.getD j zeroClaim)) → meets (inputsL (claimD x salt) (sidesL n j) P) (inputsL (claimD (l.getD j zeroClaim) (saltC base (l.getD j zeroClaim))) (sidesL n j) (pathD (leavesC base l) j))) := by
  subst hn
  unfold verC climbR at hv
  rw [Bool.and_eq_true, decide_eq_true_eq] at hv
  obtain ⟨hok, hv⟩ := hv
  split at hv
  · rename_i y hy
    split at hy
    · rename_i hc
      obtain ⟨h1, h2, h3, h4, h5⟩ := hc
      cases hy
      obtain ⟨j, rfl⟩ := Int.eq_ofNat_of_zero_le h3
      simp only [Int.toNat_natCast] at h5 hv
      have hj : j < l.length := by omega
      have hoky : okClaim (l.getD j zeroClaim) := hall _ (by
        rw [List.getD_eq_getElem?_getD, List.getElem?_eq_getElem hj]; exact List.getElem_mem _)
      refine ⟨hok, j, rfl, hj, hoky, h5, fun hne he => hne ?_, fun hne => ?_⟩
      · have hlt1 := claimNs_lt x hok
        have hlt2 := claimNs_lt _ hoky
        have := salted_inj _ _ _ _ (by simp [claimNs]) (by simp [claimNs]) hlt1 hlt2 he
        exact claimNs_inj _ _ hok hoky this
      · have hlen : (leavesC base l).length = l.length := by simp [leavesC]
        have hpl := pathD_len (leavesC base l) j (by omega)
        have hct := climb_tree (leavesC base l) j (by omega) (by omega)
        have hg : (leavesC base l).getD j zeroDig = claimD (l.getD j zeroClaim) (saltC base (l.getD j zeroClaim)) := by
          simp [leavesC, List.getD_eq_getElem?_getD, List.getElem?_map, List.getElem?_eq_getElem hj]
        rw [hlen] at hpl hct
        rw [hg] at hct
        rw [decide_eq_true_eq] at hv
        exact climb_meets _ _ l.length j P _ h5 hpl hne (hv.trans hct.symm)
    · cases hy
  · cases hv
end Go.Proofs.YtelnilllleempaaDoor
