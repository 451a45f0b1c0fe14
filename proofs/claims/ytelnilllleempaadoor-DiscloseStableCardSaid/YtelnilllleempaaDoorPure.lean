/- What climbs: a path leads to the digest of the list. No program in sight. -/
import Derived.Test.YtelnilllleempaaDoorClimb
namespace Go.Proofs.YtelnilllleempaaDoor
set_option linter.all false
open Go Go.RowKit

/-- from the top down: sides and digests beside the way -/
def upR : List Bool → List Dig → Dig → Dig
  | [], _, x => x
  | b :: fs, p, x => upD (upR fs p.tail x) b (p.headD zeroDig)

theorem climbK_snoc (b : Bool) (fs : List Bool) (p : List Dig) (o x : Dig) (hp : p.length = fs.length) : ∀ k, k ≤ fs.length → climbK (b :: fs) (p ++ [o]) x k = climbK fs p x k
  | 0, _ => rfl
  | k + 1, hk => by
    simp only [climbK]
    rw [climbK_snoc b fs p o x hp k (by omega)]
    have e1 : (b :: fs).getD ((b :: fs).length - 1 - k) false = fs.getD (fs.length - 1 - k) false := by
      have : (b :: fs).length - 1 - k = (fs.length - 1 - k) + 1 := by simp; omega
      rw [this, List.getD_cons_succ]
    have e2 : (p ++ [o]).getD k zeroDig = p.getD k zeroDig := by
      simp only [List.getD_eq_getElem?_getD]
      rw [List.getElem?_append_left (by omega)]
    rw [e1, e2]

theorem climbK_upR : ∀ (fs : List Bool) (p : List Dig) (x : Dig), p.length = fs.length → climbK fs p x fs.length = upR fs p.reverse x
  | [], p, x, _ => rfl
  | b :: fs, p, x, hp => by
    obtain ⟨p', o, rfl⟩ : ∃ p' o, p = p' ++ [o] := by
      rcases List.eq_nil_or_concat p with h | ⟨p', o, h⟩
      · subst h; simp at hp
      · exact ⟨p', o, by simpa using h⟩
    have hp' : p'.length = fs.length := by simp at hp; omega
    simp only [List.length_cons, climbK]
    rw [climbK_snoc b fs p' o x hp' _ (Nat.le_refl _), climbK_upR fs p' x hp']
    have e1 : (b :: fs).getD (fs.length + 1 - 1 - fs.length) false = b := by simp
    have e2 : (p' ++ [o]).getD fs.length zeroDig = o := by
      simp only [List.getD_eq_getElem?_getD]
      rw [List.getElem?_append_right (by omega)]; simp [hp']
    rw [e1, e2]
    simp [upR]

theorem climbD_upR (d : Dig) (i n : Nat) (p : List Dig) (hp : p.length = (dirs n i).length) : climbD d i n p = upR (dirs n i) p.reverse (leafD d) := by
  rw [climbD, hp, climbK_upR _ _ _ hp]

theorem pathL_len : ∀ (N : Nat) (l : List Dig) (i : Nat), l.length ≤ N → l.length ≤ 1000000000 → (pathL l i).length = (dirs l.length i).length := by
  intro N
  induction N with
  | zero => intro l i h _; rw [pathL_one l i (by omega), dirs_one _ i (by omega)]; rfl
  | succ N ih =>
    intro l i h h3
    by_cases h2 : 2 ≤ l.length
    · have hh := halfN_lt l.length h2 (by omega)
      rw [pathL_more l i h2 h3, dirs_more _ i h2 (by omega)]
      split
      · have := ih (l.take (halfN l.length)) i (by simp; omega) (by simp; omega)
        simp only [List.length_cons, this, List.length_take, Nat.min_eq_left (Nat.le_of_lt hh.2)]
      · have := ih (l.drop (halfN l.length)) (i - halfN l.length) (by simp; omega) (by simp; omega)
        simp only [List.length_cons, this, List.length_drop]
    · rw [pathL_one l i (by omega), dirs_one _ i (by omega)]; rfl

theorem pathD_len (l : List Dig) (i : Nat) (h : l.length ≤ 1000000000) : (pathD l i).length = (dirs l.length i).length := by
  rw [pathD, List.length_reverse, pathL_len _ l i (Nat.le_refl _) h]

theorem upR_tree : ∀ (N : Nat) (l : List Dig) (i : Nat), l.length ≤ N → l.length ≤ 1000000000 → i < l.length → upR (dirs l.length i) (pathL l i) (leafD (l.getD i zeroDig)) = treeD l := by
  intro N
  induction N with
  | zero => intro l i h _ hi; omega
  | succ N ih =>
    intro l i h h3 hi
    by_cases h2 : 2 ≤ l.length
    · have hh := halfN_lt l.length h2 (by omega)
      rw [pathL_more l i h2 h3, dirs_more _ i h2 (by omega), treeD_more l h2 h3]
      by_cases hlt : i < halfN l.length
      · have := ih (l.take (halfN l.length)) i (by simp; omega) (by simp; omega) (by simp; omega)
        rw [if_pos hlt, if_pos hlt, decide_eq_true hlt]
        simp only [upR, List.headD_cons, List.tail_cons, upD, if_true]
        have e1 : (l.take (halfN l.length)).length = halfN l.length := by simp; omega
        have e2 : (l.take (halfN l.length)).getD i zeroDig = l.getD i zeroDig := by
          simp only [List.getD_eq_getElem?_getD, List.getElem?_take, if_pos hlt]
        rw [e1, e2] at this
        rw [this]
      · have := ih (l.drop (halfN l.length)) (i - halfN l.length) (by simp; omega) (by simp; omega) (by simp; omega)
        rw [if_neg hlt, if_neg hlt, decide_eq_false hlt]
        simp only [upR, List.headD_cons, List.tail_cons, upD, Bool.false_eq_true, if_false]
        have e1 : (l.drop (halfN l.length)).length = l.length - halfN l.length := by simp
        have e2 : (l.drop (halfN l.length)).getD (i - halfN l.length) zeroDig = l.getD i zeroDig := by
          simp only [List.getD_eq_getElem?_getD, List.getElem?_drop]
          congr 2; omega
        rw [e1, e2] at this
        rw [this]
    · have h1 : l.length = 1 := by omega
      have h0 : i = 0 := by omega
      subst h0
      rw [dirs_one _ _ (by omega), treeD_one' l h1]; rfl

/-- a path leads to the digest of the list -/
theorem climb_tree (l : List Dig) (i : Nat) (h3 : l.length ≤ 1000000000) (hi : i < l.length) : climbD (l.getD i zeroDig) i l.length (pathD l i) = treeD l := by
  rw [climbD_upR _ _ _ _ (pathD_len l i h3), pathD, List.reverse_reverse]
  exact upR_tree _ l i (Nat.le_refl _) h3 hi

end Go.Proofs.YtelnilllleempaaDoor
