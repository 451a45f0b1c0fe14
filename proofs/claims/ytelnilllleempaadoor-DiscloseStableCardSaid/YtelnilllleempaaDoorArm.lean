/- What each operation on memory does, said of the list of known blocks: laws for the walk. -/
import Derived.Test.YtelnilllleempaaDoorMem
namespace Go.Proofs.YtelnilllleempaaDoor
set_option linter.all false
open Go Go.RowKit

/-! types, by number -/
class IsRow (P : Program) (T : TypeId) (n : outParam Nat) : Prop where
  row : ((P.underlying T).map TypeDesc.isRow) = some true
  size : (P.info? T).map (·.size) = some n
class ArrOf (P : Program) (T : TypeId) (n : outParam Nat) (e : outParam TypeId) : Prop where
  arr : P.underlying T = some (.array n e)
class StrT (P : Program) (T : TypeId) : Prop where
  str : P.underlying T = some .string
class BuildZ (P : Program) (T : TypeId) (zs : outParam (List Value)) : Prop where
  build : ∀ (dst : Option Tmp) (ty : TypeId) (pos : String) (af : Array Edge) (g : Option (Nat × Bool)) (a : Act) (w : World), (execOp a.eval { dst := dst, op := .build T #[], type := ty, pos := pos, after := af, guard := g }).run P w = .ok (.value (.agg zs.toArray)) w
class IntT (P : Program) (T : TypeId) (k : outParam IntKind) : Prop where
  kind : P.underlying T = some (.int k)

class IsOne (P : Program) (T : TypeId) : Prop where
  one : ((P.underlying T).map TypeDesc.isRow) = some false
  size : (P.info? T).map (·.size) = some 1
class ZeroOf (P : Program) (T : TypeId) (zs : outParam (List Value)) : Prop where
  zero : ((P.info? T).bind (·.zero)).map (·.cells.toList) = some zs
class SliceOf (P : Program) (T : TypeId) (e : outParam TypeId) (size : outParam Nat) (bytes : outParam Nat) (zs : outParam (List Value)) : Prop where
  elem : P.underlying T = some (.slice e)
  info : (P.info? e).map (fun i => (i.size, i.bytes, i.zero.map (·.cells.toList))) = some (size, bytes, some zs)
  pos : 0 < size
  len : zs.length = size

section
variable {P : Program}

theorem run_isAgg_row {T n : Nat} [h : IsRow P T n] (w : World) : (isAgg T).run P w = .ok true w := by
  have := h.row
  cases hu : P.underlying T with
  | none => simp [hu] at this
  | some d =>
    unfold isAgg
    rw [Sem.run_bind, run_underlying hu w]
    simp [hu] at this
    cases d <;> simp_all [TypeDesc.isRow]

theorem run_isAgg_one {T : Nat} [h : IsOne P T] (w : World) : (isAgg T).run P w = .ok false w := by
  have := h.one
  cases hu : P.underlying T with
  | none => simp [hu] at this
  | some d =>
    unfold isAgg
    rw [Sem.run_bind, run_underlying hu w]
    simp [hu] at this
    cases d <;> simp_all [TypeDesc.isRow]

theorem run_sizeOf {T n : Nat} (h : (P.info? T).map (·.size) = some n) (w : World) : (sizeOf T).run P w = .ok n w := by
  cases hq : P.info? T with
  | none => simp [hq] at h
  | some i =>
    have : i.size = n := by simpa [hq] using h
    simp [sizeOf, typeInfo, hq, this]

theorem run_zeroValue {T : Nat} {zs : List Value} [h : ZeroOf P T zs] (w : World) : ∃ z : Value, (zeroValue T).run P w = .ok z w ∧ z.cells = zs.toArray := by
  have h := h.zero
  cases hq : P.info? T with
  | none => simp [hq] at h
  | some i =>
    cases hz : i.zero with
    | none => simp [hq, hz] at h
    | some z =>
      refine ⟨z, by simp [zeroValue, typeInfo, hq, hz], ?_⟩
      simp [hq, hz] at h
      rw [← h]

theorem run_load_one {T : Nat} [IsOne P T] (w : World) {b o : Nat} {v : Value} (hc : w.cell? ⟨b, o, none⟩ = some v) :
    (Instr.loadAt T (.pointer (some ⟨b, o, none⟩))).run P w = .ok v w := by
  simp [Instr.loadAt, Instr.sureAddr, loadVar, Sem.run_bind, run_isAgg_one, hc]

theorem run_load_row {T n : Nat} [IsRow P T n] (w : World) {b o : Nat} {xs : List Value} (hc : w.rangeAt b o xs) (hn : xs.length = n) :
    (Instr.loadAt T (.pointer (some ⟨b, o, none⟩))).run P w = .ok (.agg xs.toArray) w := by
  have hl : (loadCells ⟨b, o, none⟩ xs.length).run P w = .ok xs.toArray w :=
    run_loadCells_list (P := P) w ⟨b, o, none⟩ xs (fun j v hv => by rw [Addr.add_mid]; exact hc j v hv)
  rw [hn] at hl
  simp [Instr.loadAt, Instr.sureAddr, loadVar, Sem.run_bind, run_isAgg_row, run_sizeOf (IsRow.size (P := P) (T := T)), hl]

theorem run_store {T n : Nat} (hsz : (P.info? T).map (·.size) = some n) {w : World} {b o : Nat} {B : TypeId} {cs vs : List Value} {v : Value} (h : HasE w (b, B, cs))
    (hv : v.cells.toList = vs) (hn : vs.length = n) (h1 : ∀ u ∈ vs, u.oneCell' = true) (hl : o + n ≤ cs.length) :
    (Instr.storeAt T (.pointer (some ⟨b, o, none⟩)) v).run P w = .ok () (w.setCells b o vs) := by
  subst hn
  have := run_storeCells_cells (P := P) b o vs 0 w (fun j hj => by rw [Nat.add_zero, h.cell, List.getElem?_eq_getElem (by omega)]; rfl) (fun j hj => by rw [Nat.add_zero]; exact h.free _) h1
  simp only [Nat.add_zero] at this
  have hs : v.cells.size = vs.length := by rw [← hv]; simp
  simp [Instr.storeAt, Instr.sureAddr, storeVar, Sem.run_bind, run_sizeOf hsz, hs, hv, this]

end

theorem evl : (∀ (a : Act) (t : Tmp), a.eval (.tmp t) = a.tmps.getD t undef) ∧ (∀ (a : Act) (v : Value), a.eval (.const v) = v) ∧ (∀ (a : Act) (f : FuncId), a.eval (.func f) = .func (.func f) #[] #[]) ∧ (∀ (a : Act) (g : Nat), a.eval (.global g) = .pointer (some ⟨g, 0, none⟩)) ∧
    (∀ (xs : Array Value) (i : Nat) (d : Value), xs.getD i d = xs[i]?.getD d) ∧ (∀ (l : List Value) (i : Nat), l.toArray[i]? = l[i]?) ∧ (∀ (x : Value) (l : List Value) (i : Nat), (x :: l)[i + 1]? = l[i]?) ∧ (∀ (x : Value) (l : List Value), (x :: l)[0]? = some x) ∧ (∀ (x d : Value), (some x).getD d = x) :=
  ⟨fun _ _ => rfl, fun _ _ => rfl, fun _ _ => rfl, fun _ _ => rfl, fun _ _ _ => Array.getD_eq_getD_getElem? .., fun _ _ => List.getElem?_toArray .., fun _ _ _ => List.getElem?_cons_succ, fun _ _ => List.getElem?_cons_zero, fun _ _ => rfl⟩
theorem nrm : (∀ (t : Array Value) (ds : List Deferred) (i : Tmp) (v : Value), Act.put { tmps := t, defers := ds } (some i) v = { tmps := t.setIfInBounds i v, defers := ds }) ∧ (∀ (a : Act) (v : Value), a.put none v = a) ∧
    (∀ (l : List Value) (i : Nat) (x : Value), l.toArray.setIfInBounds i x = (l.set i x).toArray) ∧ (∀ (x y : Value) (l : List Value), (x :: l).set 0 y = y :: l) ∧ (∀ (x y : Value) (l : List Value) (i : Nat), (x :: l).set (i + 1) y = x :: l.set i y) :=
  ⟨fun _ _ _ _ => rfl, fun _ _ => rfl, fun _ _ _ => List.setIfInBounds_toArray .., fun _ _ _ => List.set_cons_zero, fun _ _ _ _ => List.set_cons_succ⟩
theorem mHd {α : Type} {x : α} {l : List α} : x ∈ x :: l := List.mem_cons_self
theorem mTl {α : Type} {x y : α} {l : List α} (h : x ∈ l) : x ∈ y :: l := List.mem_cons_of_mem _ h
theorem mAp {α : Type} {x : α} {l m : List α} (h : x ∈ m) : x ∈ l ++ m := List.mem_append_right _ h

section arms
variable {P : Program} {ops : Array Oper} {Q : Exit → Act → World → Prop} {K : Act → World → Prop} {rest : List Oper} {a : Act} {w0 w : World} {X : List Nat} {hs hs' : List Ent} {dst : Option Tmp} {ty : TypeId} {pos : String} {af : Array Edge} {g : Option (Nat × Bool)}

/-- an operation that is wanted -/
theorem arm_on {o : Oper} (hw : Region.wanted o (yielded ops a.tmps) = true) (h : o.wp P a w (wpList P ops Q rest) Q) : wpList P ops Q (o :: rest) a w := by
  unfold wpList
  rw [if_pos hw]
  exact .inl h

/-- an operation without a guard -/
theorem arm_on0 {op : Op} (h : Oper.wp P { dst := dst, op := op, type := ty, pos := pos, after := af, guard := none } a w (wpList P ops Q rest) Q) : wpList P ops Q ({ dst := dst, op := op, type := ty, pos := pos, after := af, guard := none } :: rest) a w :=
  arm_on rfl h

/-- an operation that is passed over -/
theorem arm_off {o : Oper} (hw : Region.wanted o (yielded ops a.tmps) = false) (h : wpList P ops Q rest (a.put o.dst undef) w) : wpList P ops Q (o :: rest) a w := by
  unfold wpList
  rw [hw]
  exact h

theorem wp_value {o : Oper} {v : Value} {w' : World} (hrun : (execOp a.eval o).run P w = .ok (.value v) w') (h : K (a.put o.dst v) w') : o.wp P a w K Q := by
  unfold Oper.wp
  rw [hrun]
  exact h

theorem wp_skip' {o : Oper} {w' : World} (hrun : (execOp a.eval o).run P w = .ok .skip w') (h : K (a.put o.dst undef) w') : o.wp P a w K Q := by
  unfold Oper.wp
  rw [hrun]
  exact h

/-- alloc -/
theorem arm_alloc {T : TypeId} {zs : List Value} [ZeroOf P T zs] (hM : Mem w0 X hs w)
    (h : ∀ b w', w0.heap.size ≤ b → Mem w0 X ((b, T, zs) :: hs) w' → K (a.put dst (.pointer (some ⟨b, 0, none⟩))) w') :
    Oper.wp P { dst := dst, op := .alloc T, type := ty, pos := pos, after := af, guard := g } a w K Q := by
  obtain ⟨z, hz, hzc⟩ := run_zeroValue (P := P) (T := T) w
  refine wp_value (v := .pointer (some ⟨w.heap.size, 0, none⟩)) (w' := w.alloc (.cells zs.toArray T)) ?_ (h _ _ hM.size (hM.alloc T zs))
  simp [execOp, Instr.alloc, hz, newVar, newRow, newObj, hzc]
  rfl

/-- box -/
theorem arm_box {T : TypeId} {x : Operand} {vs : List Value} (hM : Mem w0 X hs w) (hv : (a.eval x).cells.toList = vs)
    (h : ∀ b w', w0.heap.size ≤ b → Mem w0 X ((b, T, vs) :: hs) w' → K (a.put dst (.pointer (some ⟨b, 0, none⟩))) w') :
    Oper.wp P { dst := dst, op := .box T x, type := ty, pos := pos, after := af, guard := g } a w K Q := by
  refine wp_value (v := .pointer (some ⟨w.heap.size, 0, none⟩)) (w' := w.alloc (.cells vs.toArray T)) ?_ (h _ _ hM.size (hM.alloc T vs))
  subst hv
  simp [execOp, Instr.box, newVar, newRow, newObj]
  rfl

theorem rx_load1 {T : TypeId} [IsOne P T] {x : Operand} {b o : Nat} {B : TypeId} {cs : List Value} {v : Value} (hM : Mem w0 X hs w) (hx : a.eval x = .pointer (some ⟨b, o, none⟩)) (hm : (b, B, cs) ∈ hs) (hc : cs[o]? = some v) :
    (execOp a.eval { dst := dst, op := .load T x, type := ty, pos := pos, after := af, guard := g }).run P w = .ok (.value v) w := by
  simp [execOp, hx, run_load_one w (((hM.has _ hm).cell o).trans hc)]
theorem rx_load1R {T : TypeId} [IsOne P T] {x : Operand} {b o : Nat} {v : Value} (hx : a.eval x = .pointer (some ⟨b, o, none⟩)) (hc : w.cell? ⟨b, o, none⟩ = some v) :
    (execOp a.eval { dst := dst, op := .load T x, type := ty, pos := pos, after := af, guard := g }).run P w = .ok (.value v) w := by
  simp [execOp, hx, run_load_one w hc]
theorem rx_loadN {T n : TypeId} [IsRow P T n] {x : Operand} {b o : Nat} {B : TypeId} {cs xs : List Value} (hM : Mem w0 X hs w) (hx : a.eval x = .pointer (some ⟨b, o, none⟩)) (hm : (b, B, cs) ∈ hs) (hc : (cs.drop o).take n = xs) (hn : xs.length = n) :
    (execOp a.eval { dst := dst, op := .load T x, type := ty, pos := pos, after := af, guard := g }).run P w = .ok (.value (.agg xs.toArray)) w := by
  subst hc
  simp [execOp, hx, run_load_row w ((hM.has _ hm).range o n) hn]
theorem rx_loadNR {T n : TypeId} [IsRow P T n] {x : Operand} {b o : Nat} {xs : List Value} (hx : a.eval x = .pointer (some ⟨b, o, none⟩)) (hc : w.rangeAt b o xs) (hn : xs.length = n) :
    (execOp a.eval { dst := dst, op := .load T x, type := ty, pos := pos, after := af, guard := g }).run P w = .ok (.value (.agg xs.toArray)) w := by
  simp [execOp, hx, run_load_row w hc hn]

theorem rx_load1A {T : TypeId} [IsOne P T] {L : List Ent} {x : Operand} {b o : Nat} {B : TypeId} {cs : List Value} {v : Value} (hS : ∀ e ∈ L, HasE w e) (hx : a.eval x = .pointer (some ⟨b, o, none⟩)) (hm : (b, B, cs) ∈ L) (hc : cs[o]? = some v) :
    (execOp a.eval { dst := dst, op := .load T x, type := ty, pos := pos, after := af, guard := g }).run P w = .ok (.value v) w := by
  simp [execOp, hx, run_load_one w (((hS _ hm).cell o).trans hc)]
theorem rx_loadNA {T n : TypeId} [IsRow P T n] {L : List Ent} {x : Operand} {b o : Nat} {B : TypeId} {cs xs : List Value} (hS : ∀ e ∈ L, HasE w e) (hx : a.eval x = .pointer (some ⟨b, o, none⟩)) (hm : (b, B, cs) ∈ L) (hc : (cs.drop o).take n = xs) (hn : xs.length = n) :
    (execOp a.eval { dst := dst, op := .load T x, type := ty, pos := pos, after := af, guard := g }).run P w = .ok (.value (.agg xs.toArray)) w := by
  subst hc
  simp [execOp, hx, run_load_row w ((hS _ hm).range o n) hn]
theorem rx_loadWA {T n : TypeId} [IsRow P T n] {L : List Ent} {x : Operand} {b : Nat} {B : TypeId} {cs : List Value} (hS : ∀ e ∈ L, HasE w e) (hx : a.eval x = .pointer (some ⟨b, 0, none⟩)) (hm : (b, B, cs) ∈ L) (hn : cs.length = n) :
    (execOp a.eval { dst := dst, op := .load T x, type := ty, pos := pos, after := af, guard := g }).run P w = .ok (.value (.agg cs.toArray)) w :=
  rx_loadNA hS hx hm (by rw [List.drop_zero, List.take_of_length_le (by omega)]) hn

/-- load of one cell of a known block -/
theorem arm_load1 {T : TypeId} [IsOne P T] {x : Operand} {b o : Nat} {B : TypeId} {cs : List Value} {v : Value} (hM : Mem w0 X hs w) (hx : a.eval x = .pointer (some ⟨b, o, none⟩)) (hm : (b, B, cs) ∈ hs) (hc : cs[o]? = some v)
    (h : K (a.put dst v) w) : Oper.wp P { dst := dst, op := .load T x, type := ty, pos := pos, after := af, guard := g } a w K Q := by
  refine wp_value (v := v) (w' := w) ?_ h
  simp [execOp, hx, run_load_one w (((hM.has _ hm).cell o).trans hc)]

/-- load of one cell that is known of the world -/
theorem arm_load1R {T : TypeId} [IsOne P T] {x : Operand} {b o : Nat} {v : Value} (hx : a.eval x = .pointer (some ⟨b, o, none⟩)) (hc : w.cell? ⟨b, o, none⟩ = some v)
    (h : K (a.put dst v) w) : Oper.wp P { dst := dst, op := .load T x, type := ty, pos := pos, after := af, guard := g } a w K Q := by
  refine wp_value (v := v) (w' := w) ?_ h
  simp [execOp, hx, run_load_one w hc]

/-- load of many cells of a known block -/
theorem arm_loadN {T n : TypeId} [IsRow P T n] {x : Operand} {b o : Nat} {B : TypeId} {cs xs : List Value} (hM : Mem w0 X hs w) (hx : a.eval x = .pointer (some ⟨b, o, none⟩)) (hm : (b, B, cs) ∈ hs) (hc : (cs.drop o).take n = xs) (hn : xs.length = n)
    (h : K (a.put dst (.agg xs.toArray)) w) : Oper.wp P { dst := dst, op := .load T x, type := ty, pos := pos, after := af, guard := g } a w K Q := by
  refine wp_value (v := .agg xs.toArray) (w' := w) ?_ h
  subst hc
  simp [execOp, hx, run_load_row w ((hM.has _ hm).range o n) hn]

/-- load of a known block, whole -/
theorem rx_loadW {T n : TypeId} [IsRow P T n] {x : Operand} {b : Nat} {B : TypeId} {cs : List Value} (hM : Mem w0 X hs w) (hx : a.eval x = .pointer (some ⟨b, 0, none⟩)) (hm : (b, B, cs) ∈ hs) (hn : cs.length = n) :
    (execOp a.eval { dst := dst, op := .load T x, type := ty, pos := pos, after := af, guard := g }).run P w = .ok (.value (.agg cs.toArray)) w :=
  rx_loadN hM hx hm (by rw [List.drop_zero, List.take_of_length_le (by omega)]) hn
theorem arm_loadW {T n : TypeId} [IsRow P T n] {x : Operand} {b : Nat} {B : TypeId} {cs : List Value} (hM : Mem w0 X hs w) (hx : a.eval x = .pointer (some ⟨b, 0, none⟩)) (hm : (b, B, cs) ∈ hs) (hn : cs.length = n)
    (h : K (a.put dst (.agg cs.toArray)) w) : Oper.wp P { dst := dst, op := .load T x, type := ty, pos := pos, after := af, guard := g } a w K Q := wp_value (rx_loadW hM hx hm hn) h

/-- load of many cells that are known of the world -/
theorem arm_loadNR {T n : TypeId} [IsRow P T n] {x : Operand} {b o : Nat} {xs : List Value} (hx : a.eval x = .pointer (some ⟨b, o, none⟩)) (hc : w.rangeAt b o xs) (hn : xs.length = n)
    (h : K (a.put dst (.agg xs.toArray)) w) : Oper.wp P { dst := dst, op := .load T x, type := ty, pos := pos, after := af, guard := g } a w K Q := by
  refine wp_value (v := .agg xs.toArray) (w' := w) ?_ h
  simp [execOp, hx, run_load_row w hc hn]

/-- a store into a known block -/
theorem arm_store {T n : Nat} (hsz : (P.info? T).map (·.size) = some n) {x y : Operand} {b o : Nat} {B : TypeId} {cs cs' vs : List Value} (hM : Mem w0 X hs w)
    (hx : a.eval x = .pointer (some ⟨b, o, none⟩)) (hv : (a.eval y).cells.toList = vs) (hn : vs.length = n) (h1 : ∀ u ∈ vs, u.oneCell' = true)
    (hu : Upd b B cs cs' hs hs') (hl : o + n ≤ cs.length) (hsp : splice cs o vs = cs')
    (h : ∀ w', Mem w0 X hs' w' → K (a.put dst undef) w') :
    Oper.wp P { dst := dst, op := .store T x y, type := ty, pos := pos, after := af, guard := g } a w K Q := by
  subst hsp
  have hrun := run_store hsz (hM.has _ hu.mem) hv hn h1 hl (P := P)
  refine wp_skip' (w' := w.setCells b o vs) ?_ (h _ (hM.setCells o vs (by omega) hu))
  simp [execOp, hx, hrun]

theorem splice_all {cs vs : List Value} (h : vs.length = cs.length) : splice cs 0 vs = vs := by simp [splice, h]
theorem splice_one {cs : List Value} {o : Nat} {v : Value} (h : o < cs.length) : splice cs o [v] = cs.set o v := by
  simp [splice]
  rw [List.set_eq_take_append_cons_drop, if_pos h]

/-- the whole block -/
theorem arm_storeW {T n : Nat} [IsRow P T n] {x y : Operand} {b : Nat} {B : TypeId} {cs vs : List Value} (hM : Mem w0 X hs w)
    (hx : a.eval x = .pointer (some ⟨b, 0, none⟩)) (hv : (a.eval y).cells.toList = vs) (hn : vs.length = n) (h1 : ∀ u ∈ vs, u.oneCell' = true)
    (hu : Upd b B cs vs hs hs') (hl : cs.length = n)
    (h : ∀ w', Mem w0 X hs' w' → K (a.put dst undef) w') :
    Oper.wp P { dst := dst, op := .store T x y, type := ty, pos := pos, after := af, guard := g } a w K Q :=
  arm_store IsRow.size hM hx hv hn h1 hu (by omega) (splice_all (by omega)) h

/-- one cell -/
theorem arm_store1 {T : Nat} [IsOne P T] {x y : Operand} {b o : Nat} {B : TypeId} {cs cs' : List Value} {v : Value} (hM : Mem w0 X hs w)
    (hx : a.eval x = .pointer (some ⟨b, o, none⟩)) (hv : (a.eval y).cells.toList = [v]) (h1 : v.oneCell' = true)
    (hu : Upd b B cs cs' hs hs') (hl : o < cs.length) (hsp : cs.set o v = cs')
    (h : ∀ w', Mem w0 X hs' w' → K (a.put dst undef) w') :
    Oper.wp P { dst := dst, op := .store T x y, type := ty, pos := pos, after := af, guard := g } a w K Q :=
  arm_store IsOne.size hM hx hv rfl (by simpa using h1) hu (by omega) ((splice_one hl).trans hsp) h

/-! the end of a body whose result lies in memory -/
theorem run_cell {T n : Nat} [IsRow P T n] {b : Nat} {B : TypeId} {cs : List Value} (hM : Mem w0 X hs w) (hm : (b, B, cs) ∈ hs) (hn : cs.length = n) :
    (loadVar T ⟨b, 0, none⟩).run P w = .ok (.agg cs.toArray) w := by
  have hl : (loadCells ⟨b, 0, none⟩ cs.length).run P w = .ok cs.toArray w :=
    run_loadCells_list (P := P) w ⟨b, 0, none⟩ cs (fun j v hv => by rw [Addr.add_mid, Nat.zero_add, (hM.has _ hm).cell]; exact hv)
  rw [hn] at hl
  simp [loadVar, Sem.run_bind, run_isAgg_row, run_sizeOf (IsRow.size (P := P) (T := T)), hl]

theorem ret_cell {fn : Func} {R : Ending → World → Prop} {p : Tmp} {T n : Nat} [IsRow P T n] (hr : fn.results = #[.cell p T]) {b : Nat} {B : TypeId} {cs : List Value} (hM : Mem w0 X hs w)
    (hp : a.tmps.getD p undef = .pointer (some ⟨b, 0, none⟩)) (hm : (b, B, cs) ∈ hs) (hn : cs.length = n) (hd : a.defers = []) (hR : R (.returned (.agg cs.toArray)) w) : bodyPost P fn R .ret a w := by
  refine ⟨hd, .agg cs.toArray, ?_, hR⟩
  have hp' : a.tmps[p]?.getD undef = .pointer (some ⟨b, 0, none⟩) := by simpa using hp
  simp [results, hr, hp', asAddr, run_cell hM hm hn]

theorem ret_cell2 {fn : Func} {R : Ending → World → Prop} {p q : Tmp} {T n : Nat} [IsRow P T n] (hr : fn.results = #[.cell p T, .tmp q]) {b : Nat} {B : TypeId} {cs : List Value} {v : Value} (hM : Mem w0 X hs w)
    (hp : a.tmps.getD p undef = .pointer (some ⟨b, 0, none⟩)) (hm : (b, B, cs) ∈ hs) (hn : cs.length = n) (hq : a.tmps.getD q undef = v) (hd : a.defers = []) (hR : R (.returned (.tuple #[.agg cs.toArray, v])) w) : bodyPost P fn R .ret a w := by
  refine ⟨hd, .tuple #[.agg cs.toArray, v], ?_, hR⟩
  have hp' : a.tmps[p]?.getD undef = .pointer (some ⟨b, 0, none⟩) := by simpa using hp
  have hq' : a.tmps[q]?.getD undef = v := by simpa using hq
  simp [results, hr, hp', hq', asAddr, run_cell hM hm hn]

/-- a function with a Go body is entered -/
class Entr (P : Program) (f : FuncId) : Prop where
  enters : ∀ (args : Array Value) (w : World), (callFunc f args).run P w = .ok (.enter f args) w

/-- a call, whatever becomes of it -/
theorem arm_callG {cv : Operand} {xs : Array Operand} {ats : Array TypeId} {f : FuncId} {fi ca vs : Array Value} {R : Ending → World → Prop} [hE : Entr P f] (hf : a.eval cv = .func (.func f) fi ca) (hargs : vs = fi ++ xs.map a.eval ++ ca) (hC : Calls P f vs w R)
    (h : ∀ e w', R e w' → match e with
      | .returned v => K (a.put dst v) w'
      | .panicked c => Q (.panic c) a w'
      | .outgrown => LetsOut Q) :
    Oper.wp P { dst := dst, op := .call { callee := .value cv, args := xs, argTypes := ats }, type := ty, pos := pos, after := af, guard := g } a w K Q := by
  unfold Oper.wp
  have hrun : (execOp a.eval { dst := dst, op := .call { callee := .value cv, args := xs, argTypes := ats }, type := ty, pos := pos, after := af, guard := g }).run P w = .ok (.enter f vs) w := by
    subst hargs
    have := hE.enters (fi ++ xs.map a.eval ++ ca) w
    simpa [execOp, resolve, Deferred.ofValue, hf, invoke] using this
  rw [hrun]
  refine Calls.mono hC fun e w' he => ?_
  have := h e w' he
  cases e <;> exact this

/-- a call that returns v and leaves all memory that was there as it was -/
theorem arm_call {cv : Operand} {xs : Array Operand} {ats : Array TypeId} {f : FuncId} {fi ca vs : Array Value} {v : Value} [Entr P f] (hM : Mem w0 X hs w) (hC : Calls P f vs w fun e w' => e = .returned v ∧ Below w.heap.size w w') (hf : a.eval cv = .func (.func f) fi ca) (hargs : vs = fi ++ xs.map a.eval ++ ca)
    (h : ∀ w', Mem w0 X hs w' → K (a.put dst v) w') :
    Oper.wp P { dst := dst, op := .call { callee := .value cv, args := xs, argTypes := ats }, type := ty, pos := pos, after := af, guard := g } a w K Q := by
  refine arm_callG hf hargs hC fun e w' ⟨he, hB⟩ => ?_
  subst he
  exact h w' (hM.below_call hB)

/-- a call that returns v and leaves the world -/
theorem arm_callW {cv : Operand} {xs : Array Operand} {ats : Array TypeId} {f : FuncId} {fi ca vs : Array Value} {v : Value} [Entr P f] (hC : Calls P f vs w fun e w' => e = .returned v ∧ w = w') (hf : a.eval cv = .func (.func f) fi ca) (hargs : vs = fi ++ xs.map a.eval ++ ca)
    (h : K (a.put dst v) w) :
    Oper.wp P { dst := dst, op := .call { callee := .value cv, args := xs, argTypes := ats }, type := ty, pos := pos, after := af, guard := g } a w K Q := by
  refine arm_callG hf hargs hC fun e w' ⟨he, hB⟩ => ?_
  subst he; subst hB
  exact h

/-- an element of an array value, of one cell -/
theorem rx_indexA {T e n : Nat} {x y : Operand} {k : IntKind} {j : Nat} {cs : List Value} {v : Value} [hA : ArrOf P T n e] [IsOne P e] (hx : a.eval x = .agg cs.toArray) (hy : a.eval y = .int k (j : Int)) (hv : cs[j]? = some v) (hn : j < n) :
    (execOp a.eval { dst := dst, op := .index T x y, type := ty, pos := pos, after := af, guard := g }).run P w = .ok (.value v) w := by
  have hp : (part e cs.toArray (j * 1)).run P w = .ok v w := by
    simp [part, Sem.run_bind, run_isAgg_one, hv]
  have : (Instr.index T (.agg cs.toArray) (.int k (j : Int))).run P w = .ok v w := by
    simp only [Instr.index, asIntOf, Sem.run_bind, Sem.run_pure, Result.andThen_ok, run_underlying hA.arr]
    rw [if_pos ⟨by omega, by omega⟩]
    simp only [Sem.run_bind, run_sizeOf (IsOne.size (P := P) (T := e)), Result.andThen_ok, Int.toNat_natCast]
    exact hp
  simp [execOp, hx, hy, this]
theorem arm_indexA {T e n : Nat} {x y : Operand} {k : IntKind} {j : Nat} {cs : List Value} {v : Value} [hA : ArrOf P T n e] [IsOne P e] (hx : a.eval x = .agg cs.toArray) (hy : a.eval y = .int k (j : Int)) (hv : cs[j]? = some v) (hn : j < n)
    (h : K (a.put dst v) w) : Oper.wp P { dst := dst, op := .index T x y, type := ty, pos := pos, after := af, guard := g } a w K Q := wp_value (rx_indexA hx hy hv hn) h

/-- a part of an array in memory, of elements of one cell; something is left of it -/
theorem rx_sliceA {T e n : Nat} {x y z : Operand} {kl kh : IntKind} {L H : Int} {l h b o : Nat} [hA : ArrOf P T n e] [IsOne P e] (hx : a.eval x = .pointer (some ⟨b, o, none⟩)) (hy : a.eval y = .int kl L) (hz : a.eval z = .int kh H) (hL : L = (l : Int)) (hH : H = (h : Int)) (h1 : l ≤ h) (h2 : h ≤ n) (h3 : l < n) :
    (execOp a.eval { dst := dst, op := .slice T x (some y) (some z) none, type := ty, pos := pos, after := af, guard := g }).run P w = .ok (.value (.slice (some ⟨b, o + l, none⟩) (h - l) (n - l))) w := by
  subst hL; subst hH
  have en : P.arrayLen T = n := by simp [Program.arrayLen, hA.arr]
  have ee : P.elem T = e := by simp [Program.elem, hA.arr]
  have := run_sliceAt_array_lh (P := P) w T ⟨b, o, none⟩ (by rw [en, ee]; exact hA.arr) kl kh (l : Int) (h : Int) (by omega) (by omega) (by rw [en]; omega)
  rw [en, ee, run_sizeOf (IsOne.size (P := P) (T := e))] at this
  simp only [Result.andThen_ok, slicedAt, Int.toNat_natCast, Nat.mul_one, Addr.add_mid] at this
  rw [if_neg (by omega)] at this
  simp [execOp, hx, hy, hz, this]
theorem arm_sliceA {T e n : Nat} {x y z : Operand} {kl kh : IntKind} {L H : Int} {l h b o : Nat} [hA : ArrOf P T n e] [IsOne P e] (hx : a.eval x = .pointer (some ⟨b, o, none⟩)) (hy : a.eval y = .int kl L) (hz : a.eval z = .int kh H) (hL : L = (l : Int)) (hH : H = (h : Int)) (h1 : l ≤ h) (h2 : h ≤ n) (h3 : l < n)
    (hK : K (a.put dst (.slice (some ⟨b, o + l, none⟩) (h - l) (n - l))) w) : Oper.wp P { dst := dst, op := .slice T x (some y) (some z) none, type := ty, pos := pos, after := af, guard := g } a w K Q := wp_value (rx_sliceA hx hy hz hL hH h1 h2 h3) hK

/-- the zero value, built -/
theorem arm_buildZ {T : TypeId} {zs : List Value} [ZeroOf P T zs] [hB : BuildZ P T zs] 
    (h : K (a.put dst (.agg zs.toArray)) w) : Oper.wp P { dst := dst, op := .build T #[], type := ty, pos := pos, after := af, guard := g } a w K Q :=
  wp_value (hB.build dst ty pos af g a w) h

/-- one cell of block b becomes v -/
inductive UpdS (b o : Nat) (v : Value) : List Ent → List Ent → Prop
  | head (T : TypeId) (cs : List Value) (hs : List Ent) (h : o < cs.length) : UpdS b o v ((b, T, cs) :: hs) ((b, T, cs.set o v) :: hs)
  | tail (e : Ent) {hs hs' : List Ent} (h : UpdS b o v hs hs') : UpdS b o v (e :: hs) (e :: hs')
theorem UpdS.app {b o : Nat} {v : Value} {hs hs' : List Ent} : ∀ (ho : List Ent), UpdS b o v hs hs' → UpdS b o v (ho ++ hs) (ho ++ hs')
  | [], h => h
  | e :: ho, h => .tail e (UpdS.app ho h)
theorem UpdS.upd {b o : Nat} {v : Value} {hs hs' : List Ent} (h : UpdS b o v hs hs') : ∃ T cs, Upd b T cs (cs.set o v) hs hs' ∧ o < cs.length := by
  induction h with
  | head T cs hs h => exact ⟨T, cs, .head _, h⟩
  | tail e _ ih => obtain ⟨T, cs, h1, h2⟩ := ih; exact ⟨T, cs, .tail _ h1, h2⟩
theorem arm_storeS {T : Nat} [IsOne P T] {x y : Operand} {b o : Nat} {v : Value} (hM : Mem w0 X hs w)
    (hx : a.eval x = .pointer (some ⟨b, o, none⟩)) (hv : (a.eval y).cells.toList = [v]) (h1 : v.oneCell' = true)
    (hu : UpdS b o v hs hs') (h : ∀ w', Mem w0 X hs' w' → K (a.put dst undef) w') :
    Oper.wp P { dst := dst, op := .store T x y, type := ty, pos := pos, after := af, guard := g } a w K Q := by
  obtain ⟨B, cs, hu, hl⟩ := hu.upd
  exact arm_store1 hM hx hv h1 hu hl rfl h

end arms
end Go.Proofs.YtelnilllleempaaDoor
