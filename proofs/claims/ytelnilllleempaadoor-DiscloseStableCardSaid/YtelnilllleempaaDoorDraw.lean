/- A region that draws its order: operations that yield the same in every order may be taken first; what is left stands in one order, or few. -/
import Derived.Test.YtelnilllleempaaDoorArm
import Derived.OrdersHeld
namespace Go.Proofs.YtelnilllleempaaDoor
set_option linter.all false
open Go Go.RowKit
/-- what is asked of a panic does not hang on a temporary -/
class PanicQ (Q : Exit → Act → World → Prop) : Prop where
  ok : ∀ c d v (a : Act) w, Q (.panic c) (a.put d v) w → Q (.panic c) a w
instance {P : Program} {fn : Func} {R : Ending → World → Prop} : PanicQ (bodyPost P fn R) := ⟨fun c d v a w h => by cases d <;> exact h⟩
instance {K : Act → World → Prop} {Q : Exit → Act → World → Prop} [h : PanicQ Q] : PanicQ (Exit.then K Q) := ⟨fun c d v a w hq => h.ok c d v a w hq⟩
instance {id : Nat} {Q : Exit → Act → World → Prop} [h : PanicQ Q] : PanicQ (Exit.inBlock id Q) := ⟨fun c d v a w hq => h.ok c d v a w hq⟩

section
variable {P : Program} {ops : Array Oper} {Q : Exit → Act → World → Prop} {md : Region.Mode} {S : World → Prop} {U : List Nat}

/-- none of the operations U has run yet -/
def clean (U : List Nat) (listed : Array Bool) : Bool := U.all fun u => !listed.getD u false

/-- whatever order is picked: S stands as long as none of U has run -/
def wpB (P : Program) (md : Region.Mode) (ops : Array Oper) (Q : Exit → Act → World → Prop) (S : World → Prop) (U : List Nat) : Nat → Array Bool → Act → World → Prop
  | 0, listed, a, w => Region.ready md ops listed = [] ∧ Q .normal a w
  | n + 1, listed, a, w => (Region.ready md ops listed = [] → Q .normal a w) ∧
    ∀ i ∈ Region.ready md ops listed, wpOp P ops Q i (fun a' w' => (clean U (listed.setIfInBounds i true) = true → S w') ∧ wpB P md ops Q S U n (listed.setIfInBounds i true) a' w') a w

theorem wpB.any : ∀ (n : Nat) (listed : Array Bool) (a : Act) (w : World), wpB P md ops Q S U n listed a w → wpAny P md ops Q n listed a w
  | 0, _, _, _, h => h
  | n + 1, _, _, _, h => ⟨h.1, fun i hi => wpOp_mono (fun a' w' h' => wpB.any n _ a' w' h'.2) (h.2 i hi)⟩

/-- whatever is listed, what it waits for is listed too -/
def shut (md : Region.Mode) (ops : Array Oper) (listed : Array Bool) : Prop :=
  listed.size = ops.size ∧ ∀ j oj, ops[j]? = some oj → listed.getD j false = true → ∀ e ∈ oj.after, Region.binds md e = true → listed.getD e.on false = true

/-- number j waits for number i, straight or through others -/
def waitsT (md : Region.Mode) (ops : Array Oper) (i : Nat) : Nat → Nat → Bool
  | 0, _ => false
  | f + 1, j => match ops[j]? with
    | some oj => oj.after.any fun e => Region.binds md e && (e.on == i || waitsT md ops i f e.on)
    | none => false

theorem shut.ready {listed : Array Bool} (hc : shut md ops listed) {j : Nat} (hj : j ∈ Region.ready md ops listed) : shut md ops (listed.setIfInBounds j true) := by
  obtain ⟨hjun, oj, hoj, hall⟩ := mem_ready.1 hj
  refine ⟨by simpa using hc.1, fun k ok hk hl e he hb => ?_⟩
  have hmono : ∀ m, listed.getD m false = true → (listed.setIfInBounds j true).getD m false = true := fun m hm => by
    simp only [Array.getD_eq_getD_getElem?, Array.getElem?_setIfInBounds] at hm ⊢
    split
    · split <;> simp_all
    · exact hm
  by_cases hkj : k = j
  · subst hkj
    rw [hk] at hoj
    cases hoj
    refine hmono _ ?_
    have := hall e he hb
    simp only [Array.getD_eq_getD_getElem?] at this ⊢
    cases hq : listed[e.on]? with
    | none =>
      rw [hq] at this
      exfalso
      revert this
      simp
    | some b => rw [hq] at this; simpa using this
  · have : (listed.setIfInBounds j true).getD k false = listed.getD k false := by
      simp only [Array.getD_eq_getD_getElem?, Array.getElem?_setIfInBounds]
      rw [if_neg (Ne.symm hkj)]
    rw [this] at hl
    exact hmono _ (hc.2 k ok hk hl e he hb)

theorem waitsT.unlisted {listed : Array Bool} (hc : shut md ops listed) {i : Nat} (hi : listed.getD i false = false) : ∀ (f j : Nat), waitsT md ops i f j = true → listed.getD j false = false ∧ j ∉ Region.ready md ops listed
  | 0, _, h => by simp [waitsT] at h
  | f + 1, j, h => by
    unfold waitsT at h
    cases hj : ops[j]? with
    | none => simp [hj] at h
    | some oj =>
      simp only [hj, Array.any_eq_true, Bool.and_eq_true, Bool.or_eq_true, beq_iff_eq] at h
      obtain ⟨k, hk, hb, ho⟩ := h
      have hun : listed.getD (oj.after[k]).on false = false := by
        rcases ho with ho | ho
        · rw [ho]; exact hi
        · exact (waitsT.unlisted hc hi f _ ho).1
      refine ⟨?_, fun hr => ?_⟩
      · cases hl : listed.getD j false with
        | false => rfl
        | true => rw [hc.2 j oj hj hl _ (Array.getElem_mem hk) hb] at hun; cases hun
      · obtain ⟨_, oj', hoj', hall⟩ := mem_ready.1 hr
        rw [hj] at hoj'
        cases hoj'
        have := hall _ (Array.getElem_mem hk) hb
        simp only [Array.getD_eq_getD_getElem?] at this hun
        cases hq : listed[(oj.after[k]).on]? with
        | none => rw [hq] at this; simp at this
        | some b => rw [hq] at this hun; simp at this hun; rw [this] at hun; cases hun

theorem clean_set {listed : Array Bool} {i j : Nat} (hi : i ∉ U) : clean U ((listed.setIfInBounds i true).setIfInBounds j true) = clean U (listed.setIfInBounds j true) := by
  unfold clean
  apply Bool.eq_iff_iff.2
  simp only [List.all_eq_true]
  constructor <;> intro h u hu
  · have h1 := h u hu
    have hiu : i ≠ u := fun e => hi (e ▸ hu)
    simp only [Array.getD_eq_getD_getElem?, Array.getElem?_setIfInBounds, Array.size_setIfInBounds, if_neg hiu] at h1 ⊢
    exact h1
  · have h1 := h u hu
    have hiu : i ≠ u := fun e => hi (e ▸ hu)
    simp only [Array.getD_eq_getD_getElem?, Array.getElem?_setIfInBounds, Array.size_setIfInBounds, if_neg hiu] at h1 ⊢
    exact h1
theorem clean_set1 {listed : Array Bool} {i : Nat} (hi : i ∉ U) : clean U (listed.setIfInBounds i true) = clean U listed := by
  unfold clean
  apply Bool.eq_iff_iff.2
  simp only [List.all_eq_true]
  constructor <;> intro h u hu
  · have h1 := h u hu
    have hiu : i ≠ u := fun e => hi (e ▸ hu)
    simp only [Array.getD_eq_getD_getElem?, Array.getElem?_setIfInBounds, if_neg hiu] at h1 ⊢
    exact h1
  · have h1 := h u hu
    have hiu : i ≠ u := fun e => hi (e ▸ hu)
    simp only [Array.getD_eq_getD_getElem?, Array.getElem?_setIfInBounds, if_neg hiu] at h1 ⊢
    exact h1

/-- number i is taken first; T is what it asks of the world: S, and then all of U wait for it, or nothing -/
theorem wpB.first {i : Nat} {oi : Oper} {v : Value} {T : World → Prop} (hi : ops[i]? = some oi) (hsel : ∀ (j : Nat) (o : Oper) cs b, ops[j]? = some o → o.op ≠ .select cs b)
    (hQ : ∀ c a w, Q (.panic c) (a.put oi.dst v) w → Q (.panic c) a w) (hiU : i ∉ U) (hT : (∀ w, T w) ∨ ((∀ w, S w → T w) ∧ ∀ u ∈ U, waitsT md ops i ops.size u = true)) :
    ∀ (n : Nat) (listed : Array Bool) (a : Act) (w : World),
      (∀ j oj, ops[j]? = some oj → j ≠ i → listed.getD j true = false → (∀ e ∈ oj.after, Region.binds md e = true → e.on ≠ i) → oi.apart ops oj = true) →
      i ∈ Region.ready md ops listed → shut md ops listed → YieldsIf P ops T oi v a → (clean U listed = true → S w) →
      wpB P md ops Q S U n (listed.setIfInBounds i true) (a.put oi.dst v) w → wpB P md ops Q S U (n + 1) listed a w := by
  have hTw : ∀ (listed : Array Bool) (w : World), i ∈ Region.ready md ops listed → shut md ops listed → (clean U listed = true → S w) → T w := fun listed w hr hc hS => by
    rcases hT with h | ⟨h1, h2⟩
    · exact h w
    · refine h1 w (hS ?_)
      have hi0 : listed.getD i false = false := by
        have := (mem_ready.1 hr).1
        simp only [Array.getD_eq_getD_getElem?] at this ⊢
        cases hq : listed[i]? with
        | none => rfl
        | some b => rw [hq] at this; simpa using this
      unfold clean
      rw [List.all_eq_true]
      intro u hu
      rw [(waitsT.unlisted hc hi0 _ u (h2 u hu)).1]
      rfl
  intro n
  induction n with
  | zero =>
    intro listed a w _ hr hc hy hS H
    refine ⟨fun h => (by rw [h] at hr; cases hr), fun j hj => ?_⟩
    by_cases hji : j = i
    · subst hji; exact hy.wpOp hi (hTw listed w hr hc hS) ⟨fun h => hS (by rwa [clean_set1 hiU] at h), H⟩
    · have := ready_mono hj hji
      rw [H.1] at this
      cases this
  | succ n ih =>
    intro listed a w hfree hr hc hy hS H
    refine ⟨fun h => (by rw [h] at hr; cases hr), fun j hj => ?_⟩
    by_cases hji : j = i
    · subst hji; exact hy.wpOp hi (hTw listed w hr hc hS) ⟨fun h => hS (by rwa [clean_set1 hiU] at h), H⟩
    · have h1 := H.2 j (ready_mono hj hji)
      obtain ⟨hjun, oj, hoj, hall⟩ := mem_ready.1 hj
      have hi0 := (mem_ready.1 hr).1
      have hnot : ∀ e ∈ oj.after, Region.binds md e = true → e.on ≠ i := fun e he hb heq => by
        have h2 := hall e he hb
        rw [heq] at h2
        rcases Nat.lt_or_ge i listed.size with h' | h'
        · simp [h'] at hi0 h2; rw [hi0] at h2; cases h2
        · simp [Array.getElem?_eq_none h'] at h2
      have h2 := wpOp_putIf hoj (hfree j oj hoj hji hjun hnot) (fun cs b => hsel i oi cs b hi) (fun cs b => hsel j oj cs b hoj) hQ hy h1
      have hfree' : ∀ k ok, ops[k]? = some ok → k ≠ i → (listed.setIfInBounds j true).getD k true = false →
          (∀ e ∈ ok.after, Region.binds md e = true → e.on ≠ i) → oi.apart ops ok = true := fun k ok hk hki hun hno => by
        refine hfree k ok hk hki ?_ hno
        by_cases hjk : j = k
        · subst hjk; exact hjun
        · rw [getD_set_ne true hjk] at hun; exact hun
      refine wpOp_mono (fun a' w' h3 => ?_) h2
      have hS' : clean U (listed.setIfInBounds j true) = true → S w' := fun h => h3.2.1 (by rw [clean_set hiU]; exact h)
      refine ⟨hS', ih (listed.setIfInBounds j true) a' w' hfree' (ready_mono hr (Ne.symm hji)) (hc.ready hj) h3.1 hS' ?_⟩
      rw [Array.setIfInBounds_comm _ _ hji]
      exact h3.2.2

/-- is what is listed shut? -/
def shutB (md : Region.Mode) (ops : Array Oper) (listed : Array Bool) : Bool :=
  listed.size == ops.size && (List.range ops.size).all fun j => !listed.getD j false || match ops[j]? with
    | some oj => oj.after.all fun e => !Region.binds md e || listed.getD e.on false
    | none => true
theorem shutB_spec {listed : Array Bool} (h : shutB md ops listed = true) : shut md ops listed := by
  simp only [shutB, Bool.and_eq_true, beq_iff_eq, List.all_eq_true, List.mem_range] at h
  refine ⟨h.1, fun j oj hj hl e he hb => ?_⟩
  have h2 := h.2 j (Array.getElem?_eq_some_iff.1 hj).1
  simp only [hl, Bool.not_true, Bool.false_or, hj, Array.all_eq_true] at h2
  obtain ⟨k, hk, rfl⟩ := Array.mem_iff_getElem.1 he
  have h3 := h2 k hk
  rw [hb] at h3
  simpa using h3

/-- number i is taken first: it asks S -/
theorem wpB.take {oi : Oper} {n : Nat} {listed : Array Bool} {a : Act} {w : World} (i : Nat) (v : Value) (hi : ops[i]? = some oi)
    (hc : (Region.noSelect ops && Region.free md ops listed i && (Region.ready md ops listed).contains i && shutB md ops listed && !U.contains i && U.all (fun u => waitsT md ops i ops.size u)) = true)
    (hQ : PanicQ Q) (hS : S w)
    (hw : Region.wanted oi (yielded ops a.tmps) = true) (hy : ∀ w, S w → (execOp a.eval oi).run P w = .ok (.value v) w)
    (h : wpB P md ops Q S U n (listed.setIfInBounds i true) (a.put oi.dst v) w) : wpB P md ops Q S U (n + 1) listed a w := by
  simp only [Bool.and_eq_true, Bool.not_eq_true'] at hc
  obtain ⟨⟨⟨⟨⟨h1, h2⟩, h3⟩, h4⟩, h5⟩, h6⟩ := hc
  exact wpB.first hi (Region.noSelect_spec h1) (fun c a w => hQ.ok c _ _ a w) (by simpa using h5) (.inr ⟨fun _ h => h, by simpa using h6⟩) n listed a w (Region.free_spec hi h2) (by simpa using h3) (shutB_spec h4) (.inl ⟨hw, hy⟩) (fun _ => hS) h

/-- number i is taken first: it asks nothing -/
theorem wpB.takeW {oi : Oper} {n : Nat} {listed : Array Bool} {a : Act} {w : World} (i : Nat) (v : Value) (hi : ops[i]? = some oi)
    (hc : (Region.noSelect ops && Region.free md ops listed i && (Region.ready md ops listed).contains i && shutB md ops listed && !U.contains i) = true)
    (hQ : PanicQ Q) (hS : clean U listed = true → S w)
    (hw : Region.wanted oi (yielded ops a.tmps) = true) (hy : ∀ w, (execOp a.eval oi).run P w = .ok (.value v) w)
    (h : wpB P md ops Q S U n (listed.setIfInBounds i true) (a.put oi.dst v) w) : wpB P md ops Q S U (n + 1) listed a w := by
  simp only [Bool.and_eq_true, Bool.not_eq_true'] at hc
  obtain ⟨⟨⟨⟨h1, h2⟩, h3⟩, h4⟩, h5⟩ := hc
  exact wpB.first (T := fun _ => True) hi (Region.noSelect_spec h1) (fun c a w => hQ.ok c _ _ a w) (by simpa using h5) (.inl fun _ => trivial) n listed a w (Region.free_spec hi h2) (by simpa using h3) (shutB_spec h4) (.inl ⟨hw, fun w _ => hy w⟩) hS h

/-- number i is taken first: it asks S -/
theorem wpB.tk {oi : Oper} {n : Nat} {listed : Array Bool} {a : Act} {w : World} (i : Nat) {v : Value} (hi : ops[i]? = some oi := by simp only [List.getElem?_toArray, List.getElem?_cons_succ, List.getElem?_cons_zero]; with_reducible rfl)
    (hc : (Region.noSelect ops && Region.free md ops listed i && (Region.ready md ops listed).contains i && shutB md ops listed && !U.contains i && U.all (fun u => waitsT md ops i ops.size u)) = true := by kernel_rfl)
    (hQ : PanicQ Q := by first | infer_instance | exact ⟨fun _ d _ _ _ h => by cases d <;> exact h⟩)
    (hw : Region.wanted oi (yielded ops a.tmps) = true := by with_unfolding_all rfl) (hS : S w) (hy : ∀ w, S w → (execOp a.eval oi).run P w = .ok (.value v) w)
    (h : wpB P md ops Q S U n (listed.setIfInBounds i true) (a.put oi.dst v) w) : wpB P md ops Q S U (n + 1) listed a w := wpB.take i v hi hc hQ hS hw hy h
/-- number i is taken first: it asks nothing -/
theorem wpB.tkW {oi : Oper} {n : Nat} {listed : Array Bool} {a : Act} {w : World} (i : Nat) {v : Value} (hi : ops[i]? = some oi := by simp only [List.getElem?_toArray, List.getElem?_cons_succ, List.getElem?_cons_zero]; with_reducible rfl)
    (hc : (Region.noSelect ops && Region.free md ops listed i && (Region.ready md ops listed).contains i && shutB md ops listed && !U.contains i) = true := by kernel_rfl)
    (hQ : PanicQ Q := by first | infer_instance | exact ⟨fun _ d _ _ _ h => by cases d <;> exact h⟩) (hS : clean U listed = true → S w)
    (hw : Region.wanted oi (yielded ops a.tmps) = true := by with_unfolding_all rfl) (hy : ∀ w, (execOp a.eval oi).run P w = .ok (.value v) w)
    (h : wpB P md ops Q S U n (listed.setIfInBounds i true) (a.put oi.dst v) w) : wpB P md ops Q S U (n + 1) listed a w := wpB.takeW i v hi hc hQ hS hw hy h

/-- number i alone may come up -/
theorem wpB.only {oi : Oper} {n : Nat} {listed : Array Bool} {a : Act} {w : World} (i : Nat) (hi : ops[i]? = some oi) (hr : Region.ready md ops listed = [i])
    (hw : Region.wanted oi (yielded ops a.tmps) = true)
    (h : oi.wp P a w (fun a' w' => (clean U (listed.setIfInBounds i true) = true → S w') ∧ wpB P md ops Q S U n (listed.setIfInBounds i true) a' w') Q) : wpB P md ops Q S U (n + 1) listed a w := by
  refine ⟨fun h0 => (by rw [h0] at hr; cases hr), fun j hj => ?_⟩
  rw [hr, List.mem_singleton] at hj
  subst hj
  unfold wpOp
  rw [hi]
  simp only [hw, if_true]
  exact .inl h

theorem wpB.onlyOff {oi : Oper} {n : Nat} {listed : Array Bool} {a : Act} {w : World} (i : Nat) (hi : ops[i]? = some oi) (hr : Region.ready md ops listed = [i])
    (hw : Region.wanted oi (yielded ops a.tmps) = false)
    (h : (clean U (listed.setIfInBounds i true) = true → S w) ∧ wpB P md ops Q S U n (listed.setIfInBounds i true) (a.put oi.dst undef) w) : wpB P md ops Q S U (n + 1) listed a w := by
  refine ⟨fun h0 => (by rw [h0] at hr; cases hr), fun j hj => ?_⟩
  rw [hr, List.mem_singleton] at hj
  subst hj
  unfold wpOp
  rw [hi]
  simp only [hw]
  exact h

/-- one of two comes up -/
theorem wpB.two {o1 o2 : Oper} {n : Nat} {listed : Array Bool} {a : Act} {w : World} (i j : Nat) (hi : ops[i]? = some o1) (hj : ops[j]? = some o2) (hr : Region.ready md ops listed = [i, j])
    (hw1 : Region.wanted o1 (yielded ops a.tmps) = true) (hw2 : Region.wanted o2 (yielded ops a.tmps) = true)
    (h1 : o1.wp P a w (fun a' w' => (clean U (listed.setIfInBounds i true) = true → S w') ∧ wpB P md ops Q S U n (listed.setIfInBounds i true) a' w') Q)
    (h2 : o2.wp P a w (fun a' w' => (clean U (listed.setIfInBounds j true) = true → S w') ∧ wpB P md ops Q S U n (listed.setIfInBounds j true) a' w') Q) : wpB P md ops Q S U (n + 1) listed a w := by
  refine ⟨fun h0 => (by rw [h0] at hr; cases hr), fun k hk => ?_⟩
  rw [hr] at hk
  unfold wpOp
  rcases List.mem_cons.1 hk with rfl | hk
  · rw [hi]; simp only [hw1, if_true]; exact .inl h1
  · rw [List.mem_singleton] at hk
    subst hk
    rw [hj]; simp only [hw2, if_true]; exact .inl h2

theorem wpB.done {listed : Array Bool} {a : Act} {w : World} (hr : Region.ready md ops listed = []) (h : Q .normal a w) : ∀ n, wpB P md ops Q S U n listed a w
  | 0 => ⟨hr, h⟩
  | _ + 1 => ⟨fun _ => h, by rw [hr]; simp⟩

theorem wpB.beginM {id : Nat} {a : Act} {w0 w : World} {X : List Nat} {hs : List Ent} (n : Nat) (U : List Nat) (hn : ops.size = n) (hm : P.follows .mixedOrders = true) (hM : Mem w0 X hs w)
    (h : ∀ w', Mem w0 X hs w' → wpB P .any ops Q (fun w' => Mem w0 X hs w') U n (Array.replicate n false) a w') : (Code.region id ops true).wp P Q a w :=
  wp_region_any hm (wpB.any _ _ _ _ (by rw [hn]; exact h _ hM.drew))
/-- what is asked for is that some blocks are as they are; nothing breaks it -/
theorem wpB.beginH {id : Nat} {a : Act} {w0 w : World} {X : List Nat} {hs : List Ent} (n : Nat) (L : List Ent) (hn : ops.size = n) (hm : P.follows .mixedOrders = true) (hM : Mem w0 X hs w)
    (h : ∀ w', Mem w0 X hs w' → wpB P .any ops Q (fun w' => ∀ e ∈ L, HasE w' e) [] n (Array.replicate n false) a w') : (Code.region id ops true).wp P Q a w :=
  wp_region_any hm (wpB.any _ _ _ _ (by rw [hn]; exact h _ hM.drew))

end
end Go.Proofs.YtelnilllleempaaDoor
