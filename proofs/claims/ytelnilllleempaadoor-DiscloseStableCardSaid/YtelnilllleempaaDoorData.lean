/- The data of the program as plain Lean types, and the cells that hold them. -/
import Derived.Test.YtelnilllleempaaDoorArm
namespace Go.Proofs.YtelnilllleempaaDoor
set_option linter.all false
open Go Go.RowKit

/-- 32 bytes -/
structure Dig where
  l : List UInt8
  h : l.length = 32
deriving DecidableEq

def byteV (b : UInt8) : Value := .int .u8 b.toNat
def bytesV (l : List UInt8) : List Value := l.map byteV
def dcells (d : Dig) : List Value := bytesV d.l
def zeroDig : Dig := ⟨List.replicate 32 0, rfl⟩

@[simp] theorem bytesV_length (l : List UInt8) : (bytesV l).length = l.length := by simp [bytesV]
@[simp] theorem bytesV_append (l m : List UInt8) : bytesV (l ++ m) = bytesV l ++ bytesV m := by simp [bytesV]
@[simp] theorem bytesV_nil : bytesV [] = [] := rfl
@[simp] theorem dcells_length (d : Dig) : (dcells d).length = 32 := by simp [dcells, d.h]

theorem byteV_inj {a b : UInt8} (h : byteV a = byteV b) : a = b := by
  simp only [byteV, Value.int.injEq, true_and] at h
  exact UInt8.toNat_inj.1 (by omega)
theorem bytesV_inj : ∀ {l m : List UInt8}, bytesV l = bytesV m → l = m
  | [], [], _ => rfl
  | [], _ :: _, h => by simp [bytesV] at h
  | _ :: _, [], h => by simp [bytesV] at h
  | a :: l, b :: m, h => by
    simp only [bytesV, List.map_cons, List.cons.injEq] at h
    rw [byteV_inj h.1, bytesV_inj h.2]
theorem Dig.ext' {a b : Dig} (h : a.l = b.l) : a = b := by cases a; cases b; simp_all
theorem dcells_inj {a b : Dig} (h : dcells a = dcells b) : a = b := Dig.ext' (bytesV_inj h)

theorem byteV_one (b : UInt8) : (byteV b).oneCell' = true := rfl
theorem bytesV_one (l : List UInt8) : ∀ u ∈ bytesV l, u.oneCell' = true := fun u hu => by
  obtain ⟨b, _, rfl⟩ := List.mem_map.1 hu; rfl
theorem dcells_one (d : Dig) : ∀ u ∈ dcells d, u.oneCell' = true := bytesV_one _

def iV (n : Int) : Value := .int .i64 n

structure Line where
  course : Int
  term : Int
  grade : Int
  credits : Int
  campus : Int
deriving DecidableEq
def lcells (x : Line) : List Value := [.int .i64 x.course, .int .i64 x.term, .int .i64 x.grade, .int .i64 x.credits, .int .i64 x.campus]
@[simp] theorem lcells_length (x : Line) : (lcells x).length = 5 := rfl

structure Claim where
  prog : Int
  req : Int
  met : Bool
deriving DecidableEq
def ccells (x : Claim) : List Value := [.int .i64 x.prog, .int .i64 x.req, .bool x.met]
@[simp] theorem ccells_length (x : Claim) : (ccells x).length = 3 := rfl

structure Node where
  d : Dig
  c : Int
  p : Int
deriving DecidableEq
def ncells (x : Node) : List Value := dcells x.d ++ [.int .i64 x.c, .int .i64 x.p]
@[simp] theorem ncells_length (x : Node) : (ncells x).length = 34 := by simp [ncells]
def zeroNode : Node := ⟨zeroDig, 0, 0⟩

/-- a digest's value -/
def dV (d : Dig) : Value := .agg (dcells d).toArray
def nV (x : Node) : Value := .agg (ncells x).toArray
def lV (x : Line) : Value := .agg (lcells x).toArray
def cV (x : Claim) : Value := .agg (ccells x).toArray
@[simp] theorem dV_cells (d : Dig) : (dV d).cells = (dcells d).toArray := rfl
@[simp] theorem nV_cells (d : Node) : (nV d).cells = (ncells d).toArray := rfl
@[simp] theorem lV_cells (d : Line) : (lV d).cells = (lcells d).toArray := rfl
@[simp] theorem cV_cells (d : Claim) : (cV d).cells = (ccells d).toArray := rfl

theorem cells_byteV (b : UInt8) : (byteV b).cells = #[byteV b] := rfl
theorem cells_agg (cs : Array Value) : (Value.agg cs).cells = cs := rfl
theorem cells_int (k : IntKind) (n : Int) : (Value.int k n).cells = #[.int k n] := rfl
theorem cells_bool (b : Bool) : (Value.bool b).cells = #[.bool b] := rfl
theorem cells_slice (A : Option Addr) (n c : Nat) : (Value.slice A n c).cells = #[.slice A n c] := rfl
theorem cells_ptr (A : Option Addr) : (Value.pointer A).cells = #[.pointer A] := rfl
theorem cells_func (f : Fn) (x y : Array Value) : (Value.func f x y).cells = #[.func f x y] := rfl
theorem cells_str (s : ByteArray) : (Value.string s).cells = #[.string s] := rfl

/-- the slice value '.slice A n c' has n elements of 'size' cells each, which are xs; xs may lie anywhere -/
structure Sl (w : World) (A : Option Addr) (n c : Nat) (size : Nat) (xs : List Value) : Prop where
  len : xs.length = n * size
  le : n ≤ c
  cap : c ≤ maxLen
  at_ : 0 < n → ∃ b o, A = some ⟨b, o, none⟩ ∧ w.rangeAt b o xs

theorem Sl.mono {w w' : World} {A : Option Addr} {n c size : Nat} {xs : List Value} (h : Sl w A n c size xs) (hk : ∀ b o, w.rangeAt b o xs → w'.rangeAt b o xs) : Sl w' A n c size xs :=
  ⟨h.len, h.le, h.cap, fun hn => let ⟨b, o, e, hr⟩ := h.at_ hn; ⟨b, o, e, hk b o hr⟩⟩

theorem Sl.below {w w' : World} {A : Option Addr} {n c size : Nat} {xs : List Value} (h : Sl w A n c size xs) (hb : Below w.heap.size w w') : Sl w' A n c size xs :=
  h.mono fun b o hr j v hv => by
    have := hr j v hv
    rw [hb.cell (World.block_lt_of_cell? w _ this)]
    exact this

theorem Mem.sl {w0 w : World} {hs : List Ent} {A : Option Addr} {n c size : Nat} {xs : List Value} (hM : Mem w0 [] hs w) (h : Sl w0 A n c size xs) : Sl w A n c size xs := h.below hM.below

/-- a slice over a known block -/
theorem Mem.sl_ent {w0 w : World} {X : List Nat} {hs : List Ent} {b : Nat} {T : TypeId} {cs : List Value} (hM : Mem w0 X hs w) (he : (b, T, cs) ∈ hs) (o : Nat) {n c size : Nat} {xs : List Value}
    (hx : (cs.drop o).take (n * size) = xs) (hl : xs.length = n * size) (hc : n ≤ c) (hm : c ≤ maxLen) : Sl w (some ⟨b, o, none⟩) n c size xs :=
  ⟨hl, hc, hm, fun _ => ⟨b, o, rfl, by rw [← hx]; exact (hM.has _ he).range o _⟩⟩

/-- '[]byte' -/
abbrev SlB (w : World) (A : Option Addr) (n c : Nat) (l : List UInt8) : Prop := Sl w A n c 1 (bytesV l)
theorem Sl.lenB {w : World} {A : Option Addr} {n c : Nat} {l : List UInt8} (h : SlB w A n c l) : l.length = n := by simpa using h.len

/-- '[]api.Digest' -/
def dsV (l : List Dig) : List Value := l.flatMap dcells
abbrev SlD (w : World) (A : Option Addr) (n c : Nat) (l : List Dig) : Prop := Sl w A n c 32 (dsV l)
def nsV (l : List Node) : List Value := l.flatMap ncells
abbrev SlN (w : World) (A : Option Addr) (n c : Nat) (l : List Node) : Prop := Sl w A n c 34 (nsV l)
def lsV (l : List Line) : List Value := l.flatMap lcells
abbrev SlL (w : World) (A : Option Addr) (n c : Nat) (l : List Line) : Prop := Sl w A n c 5 (lsV l)
def csV (l : List Claim) : List Value := l.flatMap ccells
abbrev SlC (w : World) (A : Option Addr) (n c : Nat) (l : List Claim) : Prop := Sl w A n c 3 (csV l)
def isV (l : List Int) : List Value := l.map fun n => .int .i64 n
abbrev SlI (w : World) (A : Option Addr) (n c : Nat) (l : List Int) : Prop := Sl w A n c 1 (isV l)

theorem flatMap_len {α : Type} (f : α → List Value) (k : Nat) (hf : ∀ x, (f x).length = k) : ∀ l : List α, (l.flatMap f).length = l.length * k
  | [] => by simp
  | x :: l => by simp [hf, flatMap_len f k hf l, Nat.add_mul, Nat.add_comm]
theorem flatMap_drop {α : Type} (f : α → List Value) (k : Nat) (hf : ∀ x, (f x).length = k) : ∀ (l : List α) (i : Nat), (l.flatMap f).drop (i * k) = (l.drop i).flatMap f
  | l, 0 => by simp
  | [], i + 1 => by simp
  | x :: l, i + 1 => by
    simp only [List.flatMap_cons, List.drop_succ_cons]
    rw [Nat.add_mul, Nat.one_mul, Nat.add_comm, List.drop_append, hf]
    rw [List.drop_of_length_le (by rw [hf]; omega)]
    simp [flatMap_drop f k hf l i]
theorem flatMap_take {α : Type} (f : α → List Value) (k : Nat) (hf : ∀ x, (f x).length = k) : ∀ (l : List α) (i : Nat), (l.flatMap f).take (i * k) = (l.take i).flatMap f
  | l, 0 => by simp
  | [], i + 1 => by simp
  | x :: l, i + 1 => by
    simp only [List.flatMap_cons, List.take_succ_cons]
    rw [Nat.add_mul, Nat.one_mul, Nat.add_comm, List.take_append, hf]
    rw [List.take_of_length_le (by rw [hf]; omega)]
    simp [flatMap_take f k hf l i]

theorem Mem.slB_dig {w0 w : World} {X : List Nat} {hs : List Ent} {b : Nat} {T : TypeId} {d : Dig} (hM : Mem w0 X hs w) (he : (b, T, dcells d) ∈ hs) : SlB w (some ⟨b, 0, none⟩) 32 32 d.l :=
  hM.sl_ent he 0 (by simp [dcells, List.take_of_length_le, d.h]) (by simp [d.h]) (Nat.le_refl _) (by decide)

/-- the call returns v, and all memory that was there is as it was -/
abbrev RetP (w : World) (v : Value) : Ending → World → Prop := fun e w' => e = .returned v ∧ Below w.heap.size w w'

theorem ncells_one (x : Node) : ∀ u ∈ ncells x, u.oneCell' = true := fun u hu => by
  rcases List.mem_append.1 hu with h | h
  · exact dcells_one _ u h
  · simp at h; rcases h with rfl | rfl <;> rfl
theorem lcells_one (x : Line) : ∀ u ∈ lcells x, u.oneCell' = true := fun u hu => by
  simp [lcells] at hu; rcases hu with rfl | rfl | rfl | rfl | rfl <;> rfl
theorem ccells_one (x : Claim) : ∀ u ∈ ccells x, u.oneCell' = true := fun u hu => by
  simp [ccells] at hu; rcases hu with rfl | rfl | rfl <;> rfl

/-- what a slice value's length is, for a loop's measure -/
def lenV : Value → Nat
  | .slice _ n _ => n
  | _ => 0
theorem Sl.blk {w : World} {A : Option Addr} {n c size : Nat} {xs : List Value} (h : Sl w A n c size xs) (hn : 0 < n) (hs : 0 < size) : ∃ b o, A = some ⟨b, o, none⟩ ∧ b < w.heap.size ∧ w.rangeAt b o xs := by
  obtain ⟨b, o, hA, hr⟩ := h.at_ hn
  refine ⟨b, o, hA, ?_, hr⟩
  have hl : 0 < xs.length := by rw [h.len]; exact Nat.mul_pos hn hs
  have := hr 0 _ (List.getElem?_eq_getElem hl)
  exact World.block_lt_of_cell? w _ this
/-- the end of a slice; where nothing is left of the room the address stays -/
theorem Sl.cut {w : World} {b o n c size : Nat} {xs : List Value} {p : Prop} [Decidable p] (h : Sl w (some ⟨b, o, none⟩) n c size xs) (k : Nat) (hk : k ≤ n) (hp : p ↔ c = k) : Sl w (if p then some ⟨b, o, none⟩ else some ⟨b, o + k * size, none⟩) (n - k) (c - k) size (xs.drop (k * size)) := by
  refine ⟨by rw [List.length_drop, h.len, Nat.sub_mul], by have := h.le; omega, by have := h.cap; omega, fun hn => ?_⟩
  have hc : ¬ p := fun hp' => by have := hp.1 hp'; have := h.le; omega
  rw [if_neg hc]
  obtain ⟨b', o', e, hr⟩ := h.at_ (by omega)
  cases e
  exact ⟨b, _, rfl, rangeAt_drop hr _⟩
/-- its beginning -/
theorem Sl.head {w : World} {A : Option Addr} {n c size : Nat} {xs : List Value} (h : Sl w A n c size xs) (k : Nat) (hk : k ≤ n) : Sl w A k c size (xs.take (k * size)) := by
  refine ⟨by rw [List.length_take, h.len, Nat.min_eq_left (Nat.mul_le_mul_right _ hk)], by have := h.le; omega, h.cap, fun hn => ?_⟩
  obtain ⟨b', o', e, hr⟩ := h.at_ (by omega)
  exact ⟨b', _, e, rangeAt_take hr _⟩

theorem Sl.nil (w : World) {size : Nat} : Sl w none 0 0 size [] := ⟨by simp, Nat.le_refl _, by decide, fun h => absurd h (by decide)⟩

theorem SlB.nil (w : World) : SlB w none 0 0 [] := Sl.nil w

end Go.Proofs.YtelnilllleempaaDoor
