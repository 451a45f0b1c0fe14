/- The abstract memory of a call: which blocks are known whole, and that all else is as it was; what each operation on memory does to it. -/
import Derived.WalkKit
import Derived.WalkSpells
import Derived.Deep.MidRow
namespace Go.Proofs.YtelnilllleempaaDoor
set_option linter.all false
open Go Go.RowKit

/-- a block that is known whole: its number, its element type, its cells -/
abbrev Ent := Nat × TypeId × List Value

def HasE (w : World) (e : Ent) : Prop := w.heap[e.1]? = some (.cells e.2.2.toArray e.2.1 (0, 0))

structure Mem (w0 : World) (X : List Nat) (hs : List Ent) (w : World) : Prop where
  os : w.os = w0.os
  tape : w.tape = w0.tape
  output : w.output = w0.output
  size : w0.heap.size ≤ w.heap.size
  frame : ∀ k, k < w0.heap.size → k ∉ X → w.heap[k]? = w0.heap[k]?
  has : ∀ e ∈ hs, HasE w e
  own : ∀ e ∈ hs, w0.heap.size ≤ e.1 ∨ e.1 ∈ X
  nodup : (hs.map (·.1)).Nodup

theorem HasE.lt {w : World} {e : Ent} (h : HasE w e) : e.1 < w.heap.size := by
  unfold HasE at h
  rcases Nat.lt_or_ge e.1 w.heap.size with hlt | hge
  · exact hlt
  · rw [Array.getElem?_eq_none hge] at h; cases h

theorem HasE.of_block {w w' : World} {e : Ent} (h : HasE w e) (hb : w'.heap[e.1]? = w.heap[e.1]?) : HasE w' e := by
  exact hb.trans h

theorem HasE.range {w : World} {b : Nat} {T : TypeId} {cs : List Value} (h : HasE w (b, T, cs)) (o n : Nat) : w.rangeAt b o ((cs.drop o).take n) := fun j v hv => by
  rw [cell_of_row w b (o + j) cs.toArray T (0, 0) h]
  have : (cs.drop o)[j]? = some v := by
    rw [List.getElem?_take] at hv
    split at hv
    · exact hv
    · cases hv
  simpa [List.getElem?_drop] using this

theorem HasE.cell {w : World} {b : Nat} {T : TypeId} {cs : List Value} (h : HasE w (b, T, cs)) (o : Nat) : w.cell? ⟨b, o, none⟩ = cs[o]? := by
  rw [cell_of_row w b o cs.toArray T (0, 0) h]; simp

theorem HasE.free {w : World} {b : Nat} {T : TypeId} {cs : List Value} (h : HasE w (b, T, cs)) (o : Nat) : w.frozen? ⟨b, o, none⟩ = false := frozen_of_row w b o cs.toArray T h

namespace Mem
variable {w0 w : World} {X : List Nat} {hs : List Ent}

theorem refl (w : World) (X : List Nat) : Mem w X [] w := ⟨rfl, rfl, rfl, Nat.le_refl _, fun _ _ _ => rfl, fun _ h => (by cases h), fun _ h => (by cases h), .nil⟩

theorem below (h : Mem w0 [] hs w) : Below w0.heap.size w0 w := ⟨h.os, h.tape, h.output, h.size, fun k hk => h.frame k hk (by simp)⟩

theorem drew (h : Mem w0 X hs w) : Mem w0 X hs w.drew := ⟨h.os, h.tape, h.output, h.size, h.frame, h.has, h.own, h.nodup⟩

theorem lt (h : Mem w0 X hs w) {e : Ent} (he : e ∈ hs) : e.1 < w.heap.size := (h.has e he).lt

theorem alloc (h : Mem w0 X hs w) (T : TypeId) (cs : List Value) : Mem w0 X ((w.heap.size, T, cs) :: hs) (w.alloc (.cells cs.toArray T)) where
  os := h.os
  tape := h.tape
  output := h.output
  size := by have := h.size; simp; omega
  frame k hk hX := (Below.heap_alloc w _ k (Nat.lt_of_lt_of_le hk h.size)).trans (h.frame k hk hX)
  has e he := by
    rcases List.mem_cons.1 he with rfl | he
    · exact heap_alloc_new w _
    · exact (h.has e he).of_block (Below.heap_alloc w _ _ (h.lt he))
  own e he := by
    rcases List.mem_cons.1 he with rfl | he
    · exact .inl h.size
    · exact h.own e he
  nodup := by
    simp only [List.map_cons, List.nodup_cons]
    refine ⟨fun hm => ?_, h.nodup⟩
    obtain ⟨e, he, hee⟩ := List.mem_map.1 hm
    have := h.lt he
    omega

/-- fewer blocks are known -/
theorem sub {hs' : List Ent} (h : Mem w0 X hs w) (hsub : hs'.Sublist hs) : Mem w0 X hs' w :=
  ⟨h.os, h.tape, h.output, h.size, h.frame, fun e he => h.has e (hsub.mem he), fun e he => h.own e (hsub.mem he), h.nodup.sublist (hsub.map _)⟩

theorem drop1 {e : Ent} (h : Mem w0 X (e :: hs) w) : Mem w0 X hs w := h.sub (List.sublist_cons_self _ _)

theorem perm {hs' : List Ent} (h : Mem w0 X hs w) (hp : hs'.Perm hs) : Mem w0 X hs' w :=
  ⟨h.os, h.tape, h.output, h.size, h.frame, fun e he => h.has e (hp.mem_iff.1 he), fun e he => h.own e (hp.mem_iff.1 he), (hp.map _).nodup_iff.2 h.nodup⟩

end Mem

/-- block 'b' of the list gets the cells 'cs'' -/
inductive Upd (b : Nat) (T : TypeId) (cs cs' : List Value) : List Ent → List Ent → Prop
  | head (hs : List Ent) : Upd b T cs cs' ((b, T, cs) :: hs) ((b, T, cs') :: hs)
  | tail (e : Ent) {hs hs' : List Ent} (h : Upd b T cs cs' hs hs') : Upd b T cs cs' (e :: hs) (e :: hs')

theorem Upd.app {b : Nat} {T : TypeId} {cs cs' : List Value} {hs hs' : List Ent} : ∀ (ho : List Ent), Upd b T cs cs' hs hs' → Upd b T cs cs' (ho ++ hs) (ho ++ hs')
  | [], h => h
  | e :: ho, h => .tail e (Upd.app ho h)
namespace Upd
variable {b : Nat} {T : TypeId} {cs cs' : List Value} {hs hs' : List Ent}
theorem keys (h : Upd b T cs cs' hs hs') : hs'.map (·.1) = hs.map (·.1) := by
  induction h with
  | head hs => rfl
  | tail e _ ih => simp [ih]
theorem mem (h : Upd b T cs cs' hs hs') : (b, T, cs) ∈ hs := by
  induction h with
  | head hs => simp
  | tail e _ ih => simp [ih]
theorem mem' (h : Upd b T cs cs' hs hs') : (b, T, cs') ∈ hs' := by
  induction h with
  | head hs => simp
  | tail e _ ih => simp [ih]
theorem cases (h : Upd b T cs cs' hs hs') (hn : (hs.map (·.1)).Nodup) : ∀ e ∈ hs', e = (b, T, cs') ∨ (e ∈ hs ∧ e.1 ≠ b) := by
  induction h with
  | head hs =>
    intro e he
    rcases List.mem_cons.1 he with rfl | he
    · exact .inl rfl
    · refine .inr ⟨List.mem_cons_of_mem _ he, fun hb => ?_⟩
      simp only [List.map_cons, List.nodup_cons] at hn
      exact hn.1 (List.mem_map.2 ⟨e, he, hb⟩)
  | tail e0 h ih =>
    intro e he
    simp only [List.map_cons, List.nodup_cons] at hn
    rcases List.mem_cons.1 he with rfl | he
    · refine .inr ⟨List.mem_cons_self, fun hb => ?_⟩
      exact hn.1 (List.mem_map.2 ⟨_, h.mem, hb.symm⟩)
    · rcases ih hn.2 e he with h1 | ⟨h1, h2⟩
      · exact .inl h1
      · exact .inr ⟨List.mem_cons_of_mem _ h1, h2⟩
end Upd

theorem heap_setCells_other (b : Nat) (k : Nat) (h : k ≠ b) : ∀ (vs : List Value) (o : Nat) (w : World), (w.setCells b o vs).heap[k]? = w.heap[k]?
  | [], _, _ => rfl
  | v :: r, o, w => by
    rw [World.setCells, heap_setCells_other b k h r (o + 1)]
    exact heap_setCell_other w _ k v h

/-- the cells from 'o' on become 'vs' -/
def splice (cs : List Value) (o : Nat) (vs : List Value) : List Value := cs.take o ++ vs ++ cs.drop (o + vs.length)

theorem splice_length {cs : List Value} {o : Nat} {vs : List Value} (h : o + vs.length ≤ cs.length) : (splice cs o vs).length = cs.length := by
  simp [splice]; omega

theorem splice_nil (cs : List Value) (o : Nat) : splice cs o [] = cs := by simp [splice]

theorem splice_cons (cs : List Value) (o : Nat) (v : Value) (vs : List Value) (h : o + (v :: vs).length ≤ cs.length) : splice (cs.set o v) (o + 1) vs = splice cs o (v :: vs) := by
  simp only [List.length_cons] at h
  simp only [splice, List.length_cons]
  rw [List.take_succ_eq_append_getElem (by simp; omega)]
  rw [List.take_set_of_le (Nat.le_refl _), List.getElem_set_self, List.drop_set_of_lt (by omega)]
  simp [Nat.add_assoc, Nat.add_comm 1]

theorem HasE.setCell {w : World} {b : Nat} {T : TypeId} {cs : List Value} (h : HasE w (b, T, cs)) (o : Nat) (v : Value) : HasE (w.setCell ⟨b, o, none⟩ v) (b, T, cs.set o v) := by
  have := heap_setCell_same w b o cs.toArray T v h
  simpa [HasE] using this

theorem HasE.setCells {b : Nat} {T : TypeId} : ∀ (vs : List Value) (o : Nat) (cs : List Value) (w : World), HasE w (b, T, cs) → o + vs.length ≤ cs.length → HasE (w.setCells b o vs) (b, T, splice cs o vs)
  | [], o, cs, w, h, _ => by rw [splice_nil]; exact h
  | v :: r, o, cs, w, h, hl => by
    rw [World.setCells]
    have := HasE.setCells r (o + 1) (cs.set o v) _ (h.setCell o v) (by simp at hl ⊢; omega)
    rw [splice_cons _ _ _ _ hl] at this
    exact this

theorem setCells_fields (b : Nat) : ∀ (vs : List Value) (o : Nat) (w : World), (w.setCells b o vs).os = w.os ∧ (w.setCells b o vs).tape = w.tape ∧ (w.setCells b o vs).output = w.output ∧ (w.setCells b o vs).heap.size = w.heap.size
  | [], _, _ => ⟨rfl, rfl, rfl, rfl⟩
  | v :: r, o, w => by
    rw [World.setCells]
    have := setCells_fields b r (o + 1) (w.setCell ⟨b, o, none⟩ v)
    exact ⟨this.1, this.2.1, this.2.2.1, this.2.2.2.trans (by simp)⟩

theorem Mem.setCells {w0 w : World} {X : List Nat} {hs hs' : List Ent} (h : Mem w0 X hs w) {b : Nat} {T : TypeId} {cs : List Value} (o : Nat) (vs : List Value) (hl : o + vs.length ≤ cs.length)
    (hu : Upd b T cs (splice cs o vs) hs hs') : Mem w0 X hs' (w.setCells b o vs) := by
  obtain ⟨h1, h2, h3, h4⟩ := setCells_fields b vs o w
  have hm := hu.mem
  have hc := hu.cases h.nodup
  refine ⟨h1.trans h.os, h2.trans h.tape, h3.trans h.output, by have := h.size; omega, fun k hk hX => ?_, fun e he => ?_, fun e he => ?_, by rw [hu.keys]; exact h.nodup⟩
  · rw [heap_setCells_other b k (fun e => ?_)]
    · exact h.frame k hk hX
    · subst e
      rcases h.own _ hm with h' | h'
      · simp at h'; omega
      · exact hX h'
  · rcases hc e he with rfl | ⟨he, hne⟩
    · exact HasE.setCells vs o cs w (h.has _ hm) hl
    · exact (h.has e he).of_block (heap_setCells_other b e.1 hne vs o w)
  · rcases hc e he with rfl | ⟨he, hne⟩
    · exact h.own (b, T, cs) hm
    · exact h.own e he

/-- behind a call that made blocks 'hs1' and left all else -/
theorem Mem.call {w0 w w1 : World} {X : List Nat} {hs hs1 : List Ent} (h : Mem w0 X hs w) (h1 : Mem w [] hs1 w1) : Mem w0 X (hs1 ++ hs) w1 := by
  refine ⟨h1.os.trans h.os, h1.tape.trans h.tape, h1.output.trans h.output, Nat.le_trans h.size h1.size, fun k hk hX => ?_, fun e he => ?_, fun e he => ?_, ?_⟩
  · exact (h1.frame k (Nat.lt_of_lt_of_le hk h.size) (by simp)).trans (h.frame k hk hX)
  · rcases List.mem_append.1 he with he | he
    · exact h1.has e he
    · exact (h.has e he).of_block (h1.frame _ (h.lt he) (by simp))
  · rcases List.mem_append.1 he with he | he
    · rcases h1.own e he with h' | h'
      · exact .inl (Nat.le_trans h.size h')
      · cases h'
    · exact h.own e he
  · rw [List.map_append, List.nodup_append]
    refine ⟨h1.nodup, h.nodup, fun a ha b hb hab => ?_⟩
    obtain ⟨e1, he1, rfl⟩ := List.mem_map.1 ha
    obtain ⟨e2, he2, rfl⟩ := List.mem_map.1 hb
    have h3 := h.lt he2
    rcases h1.own e1 he1 with h' | h'
    · omega
    · cases h'

theorem Mem.below_call {w0 w w1 : World} {X : List Nat} {hs : List Ent} (h : Mem w0 X hs w) (h1 : Below w.heap.size w w1) : Mem w0 X hs w1 := by
  have := Mem.call (hs1 := []) h ⟨h1.os, h1.tape, h1.output, h1.size, fun k hk _ => h1.block k hk, fun _ h => (by cases h), fun _ h => (by cases h), .nil⟩
  simpa using this

/-- behind a call that wrote block 'b' and made blocks 'hs1' -/
theorem Mem.call1 {w0 w w1 : World} {X : List Nat} {hs hs' hs1 : List Ent} {b : Nat} {T : TypeId} {cs cs' : List Value} (h : Mem w0 X hs w) (h1 : Mem w [b] ((b, T, cs') :: hs1) w1)
    (hu : Upd b T cs cs' hs hs') (hown : ∀ e ∈ hs1, w.heap.size ≤ e.1) : Mem w0 X (hs1 ++ hs') w1 := by
  have hm := hu.mem
  have hc := hu.cases h.nodup
  have hlt := h.lt hm
  have hn1 := h1.nodup
  simp only [List.map_cons, List.nodup_cons] at hn1
  refine ⟨h1.os.trans h.os, h1.tape.trans h.tape, h1.output.trans h.output, Nat.le_trans h.size h1.size, fun k hk hX => ?_, fun e he => ?_, fun e he => ?_, ?_⟩
  · refine (h1.frame k (Nat.lt_of_lt_of_le hk h.size) (fun e => ?_)).trans (h.frame k hk hX)
    simp at e
    subst e
    rcases h.own _ hm with h' | h'
    · simp at h'; omega
    · exact hX h'
  · rcases List.mem_append.1 he with he | he
    · exact h1.has e (List.mem_cons_of_mem _ he)
    · rcases hc e he with rfl | ⟨he, hne⟩
      · exact h1.has _ List.mem_cons_self
      · exact (h.has e he).of_block (h1.frame _ (h.lt he) (by simpa using hne))
  · rcases List.mem_append.1 he with he | he
    · exact .inl (Nat.le_trans h.size (hown e he))
    · rcases hc e he with rfl | ⟨he, hne⟩
      · exact h.own (b, T, cs) hm
      · exact h.own e he
  · rw [List.map_append, List.nodup_append]
    refine ⟨hn1.2, by rw [hu.keys]; exact h.nodup, fun a ha b' hb hab => ?_⟩
    obtain ⟨e1, he1, rfl⟩ := List.mem_map.1 ha
    rw [hu.keys] at hb
    obtain ⟨e2, he2, rfl⟩ := List.mem_map.1 hb
    have h3 := h.lt he2
    have := hown e1 he1
    omega

/-- old memory, as it was -/
theorem Mem.old {w0 w : World} {hs : List Ent} (h : Mem w0 [] hs w) {b o : Nat} {xs : List Value} (hr : w0.rangeAt b o xs) : w.rangeAt b o xs := fun j v hv => by
  have := hr j v hv
  have hlt := World.block_lt_of_cell? w0 _ this
  rw [h.below.cell hlt]
  exact this

theorem Mem.single {w : World} {b : Nat} {T : TypeId} {cs : List Value} (h : HasE w (b, T, cs)) : Mem w [b] [(b, T, cs)] w :=
  ⟨rfl, rfl, rfl, Nat.le_refl _, fun _ _ _ => rfl, fun e he => by rw [List.mem_singleton] at he; subst he; exact h, fun e he => by rw [List.mem_singleton] at he; subst he; exact .inr (by simp), by simp⟩

theorem Mem.oldX {w0 w : World} {X : List Nat} {hs : List Ent} (h : Mem w0 X hs w) {b o : Nat} {xs : List Value} (hr : w0.rangeAt b o xs) (hb : b ∉ X) : w.rangeAt b o xs := fun j v hv => by
  have := hr j v hv
  have hlt := World.block_lt_of_cell? w0 _ this
  rw [← this]
  exact World.cell?_of_block (h.frame b hlt hb)
theorem rangeAt_drop {w : World} {b o : Nat} {xs : List Value} (h : w.rangeAt b o xs) (k : Nat) : w.rangeAt b (o + k) (xs.drop k) := fun j v hv => by
  rw [List.getElem?_drop] at hv
  rw [Nat.add_assoc]
  exact h _ v hv
theorem rangeAt_take {w : World} {b o : Nat} {xs : List Value} (h : w.rangeAt b o xs) (k : Nat) : w.rangeAt b o (xs.take k) := fun j v hv => by
  rw [List.getElem?_take] at hv
  split at hv
  · exact h j v hv
  · cases hv

theorem Mem.oldc {w0 w : World} {hs : List Ent} (h : Mem w0 [] hs w) {p : Addr} {v : Value} (hr : w0.cell? p = some v) : w.cell? p = some v := by
  have hlt := World.block_lt_of_cell? w0 _ hr
  rw [h.below.cell hlt]
  exact hr

/-- a new block that is not followed -/
theorem Mem.allocO {w0 w : World} {X : List Nat} {hs : List Ent} (h : Mem w0 X hs w) (o : Obj) : Mem w0 X hs (w.alloc o) where
  os := h.os
  tape := h.tape
  output := h.output
  size := by have := h.size; simp; omega
  frame k hk hX := (Below.heap_alloc w _ k (Nat.lt_of_lt_of_le hk h.size)).trans (h.frame k hk hX)
  has e he := (h.has e he).of_block (Below.heap_alloc w _ _ (h.lt he))
  own e he := h.own e he
  nodup := h.nodup

/-- the blocks of a slice that is handed down -/
theorem Mem.self {w0 w : World} {X : List Nat} {ho hs : List Ent} (h : Mem w0 X (ho ++ hs) w) : Mem w (ho.map (·.1)) ho w where
  os := rfl
  tape := rfl
  output := rfl
  size := Nat.le_refl _
  frame _ _ _ := rfl
  has e he := h.has e (List.mem_append_left _ he)
  own e he := .inr (List.mem_map.2 ⟨e, he, rfl⟩)
  nodup := by
    have := h.nodup
    rw [List.map_append, List.nodup_append] at this
    exact this.1
/-- behind a call that was handed the blocks ho and gives back ho' -/
theorem Mem.callT {w0 w w1 : World} {X : List Nat} {ho ho' hs : List Ent} (h : Mem w0 X (ho ++ hs) w) (h1 : Mem w (ho.map (·.1)) ho' w1) : Mem w0 X (ho' ++ hs) w1 := by
  have hnd := h.nodup
  rw [List.map_append, List.nodup_append] at hnd
  have hdis : ∀ e ∈ hs, e.1 ∉ ho.map (·.1) := fun e he hm => hnd.2.2 _ hm _ (List.mem_map.2 ⟨e, he, rfl⟩) rfl
  refine ⟨h1.os.trans h.os, h1.tape.trans h.tape, h1.output.trans h.output, Nat.le_trans h.size h1.size, fun k hk hX => ?_, fun e he => ?_, fun e he => ?_, ?_⟩
  · refine (h1.frame k (Nat.lt_of_lt_of_le hk h.size) (fun hm => ?_)).trans (h.frame k hk hX)
    obtain ⟨e, he, rfl⟩ := List.mem_map.1 hm
    rcases h.own e (List.mem_append_left _ he) with h' | h'
    · omega
    · exact hX h'
  · rcases List.mem_append.1 he with he | he
    · exact h1.has e he
    · exact (h.has e (List.mem_append_right _ he)).of_block (h1.frame _ (h.lt (List.mem_append_right _ he)) (hdis e he))
  · rcases List.mem_append.1 he with he | he
    · rcases h1.own e he with h' | h'
      · exact .inl (Nat.le_trans h.size h')
      · obtain ⟨e2, he2, h2⟩ := List.mem_map.1 h'
        rw [← h2]
        exact h.own e2 (List.mem_append_left _ he2)
    · exact h.own e (List.mem_append_right _ he)
  · rw [List.map_append, List.nodup_append]
    refine ⟨h1.nodup, hnd.2.1, fun a ha b hb hab => ?_⟩
    obtain ⟨e1, he1, rfl⟩ := List.mem_map.1 ha
    obtain ⟨e2, he2, rfl⟩ := List.mem_map.1 hb
    have h3 := h.lt (List.mem_append_right ho he2)
    rcases h1.own e1 he1 with h' | h'
    · omega
    · rw [hab] at h'; exact hdis e2 he2 h'

theorem Mem.oldE {w0 w : World} {X : List Nat} {hs : List Ent} (h : Mem w0 X hs w) {e : Ent} (he : HasE w0 e) (hX : e.1 ∉ X) : HasE w e := he.of_block (h.frame e.1 he.lt hX)

end Go.Proofs.YtelnilllleempaaDoor
