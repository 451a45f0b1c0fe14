/- Two ways to one root: the same, or two inputs with one hash; the encoding is one to one. No program in sight. -/
import Derived.Test.YtelnilllleempaaDoorPure
import Derived.Test.YtelnilllleempaaDoorLeaf
namespace Go.Proofs.YtelnilllleempaaDoor
set_option linter.all false
open Go Go.RowKit

theorem or128_toNat (u : Nat) : (UInt8.ofNat u ||| 128).toNat = (u % 256) ||| 128 := by simp
theorem or128_mod (u : Nat) : ((u % 256) ||| 128) % 128 = u % 128 := by
  have := Nat.or_mod_two_pow (a := u % 256) (b := 128) (n := 7)
  simp at this
  omega
theorem or128_ge (u : Nat) : 128 ≤ ((u % 256) ||| 128) := Nat.right_le_or

theorem numF_inj : ∀ (f u v : Nat) (r s : List UInt8), u < 128 ^ f * 128 → v < 128 ^ f * 128 → numF f u ++ r = numF f v ++ s → u = v ∧ r = s
  | 0, u, v, r, s, hu, hv, h => by
    simp only [numF, List.cons_append, List.nil_append, List.cons.injEq] at h
    refine ⟨?_, h.2⟩
    have := congrArg UInt8.toNat h.1
    simp at this hu hv
    omega
  | f + 1, u, v, r, s, hu, hv, h => by
    simp only [numF] at h
    by_cases h1 : u < 128
    · rw [if_pos h1] at h
      by_cases h2 : v < 128
      · rw [if_pos h2] at h
        simp only [List.cons_append, List.nil_append, List.cons.injEq] at h
        refine ⟨?_, h.2⟩
        have := congrArg UInt8.toNat h.1
        simp at this
        omega
      · rw [if_neg h2] at h
        simp only [List.cons_append, List.nil_append, List.cons.injEq] at h
        have := congrArg UInt8.toNat h.1
        rw [or128_toNat] at this
        have h3 := or128_ge v
        simp at this
        omega
    · rw [if_neg h1] at h
      by_cases h2 : v < 128
      · rw [if_pos h2] at h
        simp only [List.cons_append, List.nil_append, List.cons.injEq] at h
        have := congrArg UInt8.toNat h.1
        rw [or128_toNat] at this
        have h3 := or128_ge u
        simp at this
        omega
      · rw [if_neg h2] at h
        simp only [List.cons_append, List.cons.injEq] at h
        have h4 := congrArg UInt8.toNat h.1
        rw [or128_toNat, or128_toNat] at h4
        have h5 := or128_mod u
        have h6 := or128_mod v
        rw [h4] at h5
        rw [Nat.pow_succ] at hu hv
        obtain ⟨h7, h8⟩ := numF_inj f (u / 128) (v / 128) r s (Nat.div_lt_of_lt_mul (by omega)) (Nat.div_lt_of_lt_mul (by omega)) h.2
        exact ⟨by omega, h8⟩

theorem num_inj (u v : Nat) (r s : List UInt8) (hu : u < 18446744073709551616) (hv : v < 18446744073709551616) (h : num u ++ r = num v ++ s) : u = v ∧ r = s :=
  numF_inj 10 u v r s (by omega) (by omega) h

theorem ivBs_inj : ∀ (a b : List Nat), a.length = b.length → (∀ m ∈ a, m < 4611686018427387904) → (∀ m ∈ b, m < 4611686018427387904) → a.flatMap ivB = b.flatMap ivB → a = b
  | [], [], _, _, _, _ => rfl
  | [], _ :: _, h, _, _, _ => by simp at h
  | _ :: _, [], h, _, _, _ => by simp at h
  | x :: a, y :: b, h, ha, hb, he => by
    simp only [List.flatMap_cons, ivB, List.cons_append, List.cons.injEq, true_and] at he
    have hx := ha x (by simp)
    have hy := hb y (by simp)
    obtain ⟨h1, h2⟩ := num_inj _ _ _ _ (by omega) (by omega) he
    have h3 : x = y := by omega
    subst h3
    rw [ivBs_inj a b (by simpa using h) (fun m hm => ha m (by simp [hm])) (fun m hm => hb m (by simp [hm])) h2]

theorem encB_inj (a b : List Nat) (hl : a.length = b.length) (hs : a.length ≤ 1000) (ha : ∀ m ∈ a, m < 4611686018427387904) (hb : ∀ m ∈ b, m < 4611686018427387904) (h : encB a = encB b) : a = b := by
  simp only [encB, List.append_assoc, List.cons_append, List.nil_append, List.cons.injEq, true_and] at h
  exact ivBs_inj a b hl ha hb (num_inj _ _ _ _ (by omega) (by omega) h).2

theorem salted_inj (s t : Dig) (a b : List Nat) (hl : a.length = b.length) (hs : a.length ≤ 1000) (ha : ∀ m ∈ a, m < 4611686018427387904) (hb : ∀ m ∈ b, m < 4611686018427387904) (h : s.l ++ encB a = t.l ++ encB b) : a = b :=
  encB_inj a b hl hs ha hb (List.append_inj h (by rw [s.h, t.h])).2

/-! the way up, from the leaf: s says where the way comes from the right -/
def stepI (b : Bool) (o v : Dig) : List UInt8 := if b then o.l ++ v.l else v.l ++ o.l
def valK (s : List Bool) (p : List Dig) (v : Dig) : Nat → Dig
  | 0 => v
  | k + 1 => tagged [110, 111, 100, 101] (stepI (s.getD k false) (p.getD k zeroDig) (valK s p v k))
def inpK (s : List Bool) (p : List Dig) (v : Dig) (k : Nat) : List UInt8 := stepI (s.getD k false) (p.getD k zeroDig) (valK s p v k)
def inputsL (d : Dig) (s : List Bool) (p : List Dig) : List (List UInt8) := d.l :: (List.range p.length).map (inpK s p (leafD d))

theorem stepI_inj (b : Bool) (o o' v v' : Dig) (h : stepI b o v = stepI b o' v') : o = o' ∧ v = v' := by
  unfold stepI at h
  split at h
  · have := List.append_inj h (by rw [o.h, o'.h]); exact ⟨Dig.ext' this.1, Dig.ext' this.2⟩
  · have := List.append_inj h (by rw [v.h, v'.h]); exact ⟨Dig.ext' this.2, Dig.ext' this.1⟩

theorem valK_meet (s : List Bool) (p q : List Dig) (v w : Dig) (hne : v ≠ w) : ∀ n, valK s p v n = valK s q w n → ∃ k, k < n ∧ inpK s p v k ≠ inpK s q w k ∧ tagged [110, 111, 100, 101] (inpK s p v k) = tagged [110, 111, 100, 101] (inpK s q w k)
  | 0, h => absurd h hne
  | n + 1, h => by
    by_cases he : inpK s p v n = inpK s q w n
    · obtain ⟨k, h1, h2⟩ := valK_meet s p q v w hne n (stepI_inj _ _ _ _ _ he).2
      exact ⟨k, by omega, h2⟩
    · exact ⟨n, by omega, he, h⟩

/-- what collide looks for -/
def tagOf (i : Nat) : List UInt8 := if i = 0 then [108, 101, 97, 102] else [110, 111, 100, 101]
def meets (a b : List (List UInt8)) : Prop := ∃ i, i < a.length ∧ i < b.length ∧ a.getD i [] ≠ b.getD i [] ∧ tagged (tagOf i) (a.getD i []) = tagged (tagOf i) (b.getD i [])

theorem inputsL_succ (d : Dig) (s : List Bool) (p : List Dig) (k : Nat) (h : k < p.length) : (inputsL d s p).getD (k + 1) [] = inpK s p (leafD d) k := by
  simp [inputsL, List.getD_eq_getElem?_getD, h]
@[simp] theorem inputsL_length (d : Dig) (s : List Bool) (p : List Dig) : (inputsL d s p).length = p.length + 1 := by simp [inputsL]

theorem meets_of (d e : Dig) (s : List Bool) (p q : List Dig) (hl : p.length = q.length) (hne : d ≠ e) (hv : valK s p (leafD d) p.length = valK s q (leafD e) q.length) : meets (inputsL d s p) (inputsL e s q) := by
  by_cases h0 : leafD d = leafD e
  · refine ⟨0, by simp, by simp, ?_, ?_⟩
    · show d.l ≠ e.l
      exact fun h => hne (Dig.ext' h)
    · show tagged [108, 101, 97, 102] d.l = tagged [108, 101, 97, 102] e.l
      exact h0
  · rw [← hl] at hv
    obtain ⟨k, h1, h2, h3⟩ := valK_meet s p q _ _ h0 _ hv
    refine ⟨k + 1, by simp; omega, by simp; omega, ?_, ?_⟩
    · rw [inputsL_succ _ _ _ _ h1, inputsL_succ _ _ _ _ (by omega)]; exact h2
    · rw [inputsL_succ _ _ _ _ h1, inputsL_succ _ _ _ _ (by omega)]; exact h3

/-- from the leaf upwards, whether the way comes from the right -/
def sidesL (n i : Nat) : List Bool := ((dirs n i).map (!·)).reverse

theorem sidesL_getD (n i k : Nat) (h : k < (dirs n i).length) : (sidesL n i).getD k false = !(dirs n i).getD ((dirs n i).length - 1 - k) false := by
  have h2 : (dirs n i).length - 1 - k < (dirs n i).length := by omega
  simp only [sidesL, List.getD_eq_getElem?_getD]
  rw [List.getElem?_reverse (by simpa using h)]
  simp [List.getElem?_map, List.getElem?_eq_getElem h2]

theorem climbK_valK (n i : Nat) (p : List Dig) (x : Dig) : ∀ k, k ≤ (dirs n i).length → climbK (dirs n i) p x k = valK (sidesL n i) p x k
  | 0, _ => rfl
  | k + 1, hk => by
    simp only [climbK, valK]
    rw [climbK_valK n i p x k (by omega), sidesL_getD n i k (by omega)]
    cases (dirs n i).getD ((dirs n i).length - 1 - k) false <;> rfl

theorem climbD_valK (d : Dig) (n i : Nat) (p : List Dig) (hp : p.length = (dirs n i).length) : climbD d i n p = valK (sidesL n i) p (leafD d) p.length := by
  rw [climbD, climbK_valK _ _ _ _ _ (by omega)]

/-- two ways to one root -/
theorem climb_meets (d e : Dig) (n i : Nat) (p q : List Dig) (hp : p.length = (dirs n i).length) (hq : q.length = (dirs n i).length) (hne : d ≠ e) (h : climbD d i n p = climbD e i n q) : meets (inputsL d (sidesL n i) p) (inputsL e (sidesL n i) q) := by
  rw [climbD_valK _ _ _ _ hp, climbD_valK _ _ _ _ hq] at h
  exact meets_of d e _ p q (by omega) hne h

theorem sidesL_one (n i : Nat) (h : n ≤ 1) : sidesL n i = [] := by rw [sidesL, dirs_one n i h]; rfl
theorem sidesL_more (n i : Nat) (h : 2 ≤ n) (h3 : n ≤ 1099511627776) : sidesL n i = if i < halfN n then sidesL (halfN n) i ++ [false] else sidesL (n - halfN n) (i - halfN n) ++ [true] := by
  unfold sidesL
  rw [dirs_more n i h h3]
  split
  · rename_i hlt; simp [hlt]
  · rename_i hlt; simp [hlt]
end Go.Proofs.YtelnilllleempaaDoor
