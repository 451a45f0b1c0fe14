/- Equality of digests, nodes, lines, claims. -/
import Derived.Test.YtelnilllleempaaDoorMore
import Derived.DeepKeys
namespace Go.Proofs.YtelnilllleempaaDoor
set_option linter.all false
open Go Go.RowKit

section
variable {P : Program}
theorem part_one {T : TypeId} [IsOne P T] {xs : List Value} {off : Nat} {v : Value} (h : xs[off]? = some v) (w : World) : (part T xs.toArray off).run P w = .ok v w := by
  simp [part, Sem.run_bind, run_isAgg_one, h]
theorem part_row {T n : TypeId} [IsRow P T n] {xs ys : List Value} {off : Nat} (h : (xs.drop off).take n = ys) (w : World) : (part T xs.toArray off).run P w = .ok (.agg ys.toArray) w := by
  subst h
  simp [part, Sem.run_bind, run_isAgg_row, run_sizeOf (IsRow.size (P := P) (T := T)), List.extract]
theorem eq_int {T : TypeId} {k : IntKind} [h : IntT P T k] (d : Nat) (a b : Int) (w : World) : (Op.equalIn (d + 1) T (.int k a) (.int k b)).run P w = .ok (decide (a = b)) w := by
  have : (a == b) = decide (a = b) := rfl
  simp [Op.equalIn, Sem.run_bind, run_underlying h.kind, this]
class BoolT (P : Program) (T : TypeId) : Prop where
  kind : P.underlying T = some .bool
theorem eq_bool {T : TypeId} [h : BoolT P T] (d : Nat) (a b : Bool) (w : World) : (Op.equalIn (d + 1) T (.bool a) (.bool b)).run P w = .ok (decide (a = b)) w := by
  have : (a == b) = decide (a = b) := rfl
  simp only [Op.equalIn, Sem.run_bind, run_underlying h.kind, Result.andThen_ok, this]
  rfl

theorem eqItems_bytes (d : Nat) {e : TypeId} [IsOne P e] [IntT P e .u8] (l m : List UInt8) : ∀ (is : List Nat) (w : World), (∀ i ∈ is, i < l.length ∧ i < m.length) →
    (Op.eqItems (d + 1) e 1 (bytesV l).toArray (bytesV m).toArray is).run P w = .ok (is.all fun i => l.getD i 0 == m.getD i 0) w
  | [], w, _ => rfl
  | i :: is, w, h => by
    obtain ⟨h1, h2⟩ := h i (by simp)
    have e1 : (bytesV l)[i * 1]? = some (byteV (l.getD i 0)) := by
      simp [bytesV, List.getElem?_map, List.getD_eq_getElem?_getD, List.getElem?_eq_getElem h1]
    have e2 : (bytesV m)[i * 1]? = some (byteV (m.getD i 0)) := by
      simp [bytesV, List.getElem?_map, List.getD_eq_getElem?_getD, List.getElem?_eq_getElem h2]
    have ih := eqItems_bytes d (e := e) l m is w (fun j hj => h j (by simp [hj]))
    simp only [Op.eqItems, Sem.run_bind, part_one e1, part_one e2, Result.andThen_ok, byteV, eq_int]
    by_cases hb : l.getD i 0 = m.getD i 0
    · rw [hb]; simp only [decide_true, Bool.not_true, Bool.false_eq_true, if_false, ih, List.all_cons, hb, beq_self_eq_true, Bool.true_and]
    · have : ¬ (((l.getD i 0).toNat : Int) = ((m.getD i 0).toNat : Int)) := fun e => hb (UInt8.toNat_inj.1 (by omega))
      rw [decide_eq_false this]
      simp only [List.all_cons, beq_eq_false_iff_ne.2 hb]
      rfl

class FieldsAt (P : Program) (T : TypeId) (fs : outParam (List (Bool × TypeId × Nat))) : Prop where
  under : P.underlying T = some (.struct (P.fieldsOf T))
  held : P.stoodInHeld T = false
  fields : (P.fieldsOf T).toList.map (fun f => (f.name != "_", f.type, f.offset)) = fs

theorem eqFields_run (d : Nat) (xs ys : Array Value) (w : World) : ∀ (fs : List Field) (ts : List (Bool × TypeId × Nat)) (rs : List Bool), fs.map (fun f => (f.name != "_", f.type, f.offset)) = ts → ts.length = rs.length →
    (∀ (i : Nat) (t : Bool × TypeId × Nat) (r : Bool), ts[i]? = some t → rs[i]? = some r → t.1 = true ∧ ∃ a b, (part t.2.1 xs t.2.2).run P w = .ok a w ∧ (part t.2.1 ys t.2.2).run P w = .ok b w ∧ (Op.equalIn d t.2.1 a b).run P w = .ok r w) →
    (Op.eqFields d xs ys fs).run P w = .ok (rs.all id) w
  | [], ts, rs, h, hl, _ => by
    subst h
    have : rs = [] := List.eq_nil_of_length_eq_zero (by simpa using hl.symm)
    subst this
    simp [Op.eqFields]
  | f :: fs, ts, rs, h, hl, hp => by
    subst h
    cases rs with
    | nil => simp at hl
    | cons r rs =>
      obtain ⟨hn, a, b, p1, p2, p3⟩ := hp 0 _ r rfl rfl
      have ih := eqFields_run d xs ys w fs _ rs rfl (by simpa using hl) (fun i t r h1 h2 => hp (i + 1) t r h1 h2)
      have hn' : f.name ≠ "_" := by simpa using hn
      simp only [Op.eqFields, hn', ne_eq, not_false_eq_true, if_true, Sem.run_bind, p1, p2, p3, Result.andThen_ok]
      cases r
      · simp
      · simp [ih]

theorem run_eqStruct {T : TypeId} {ts : List (Bool × TypeId × Nat)} [h : FieldsAt P T ts] (d : Nat) (xs ys : Array Value) (rs : List Bool) (w : World) (hl : ts.length = rs.length)
    (hp : ∀ (i : Nat) (t : Bool × TypeId × Nat) (r : Bool), ts[i]? = some t → rs[i]? = some r → t.1 = true ∧ ∃ a b, (part t.2.1 xs t.2.2).run P w = .ok a w ∧ (part t.2.1 ys t.2.2).run P w = .ok b w ∧ (Op.equalIn d t.2.1 a b).run P w = .ok r w) :
    (Op.equalIn (d + 1) T (.agg xs) (.agg ys)).run P w = .ok (rs.all id) w := by
  rw [run_equalIn_struct w d T xs ys h.under h.held]
  exact eqFields_run d xs ys w _ _ rs h.fields hl hp

class Cmp (P : Program) (T : TypeId) : Prop where
  guard : P.eqGuardType P.depth T = false

section
variable {Q : Exit → Act → World → Prop} {K : Act → World → Prop} {a : Act} {w : World} {dst : Option Tmp} {ty : TypeId} {pos : String} {af : Array Edge} {g : Option (Nat × Bool)}
theorem rx_eqlAgg {T T' : TypeId} [hC : Cmp P T] {x y : Operand} {xs ys : Array Value} {r : Bool} (hx : a.eval x = .agg xs) (hy : a.eval y = .agg ys) (he : (Op.equal T (.agg xs) (.agg ys)).run P w = .ok r w) :
    (execOp a.eval { dst := dst, op := .binOp .eql T x y T', type := ty, pos := pos, after := af, guard := g }).run P w = .ok (.value (.bool r)) w := by
  have h3 : (eqGuard .eql T x y (.agg xs) (.agg ys)).run P w = .ok () w := by simp [eqGuard, hC.guard]
  have h2 : (binOp .eql T (.agg xs) (.agg ys)).run P w = .ok (.bool r) w := by
    simp only [binOp, Sem.run_bind, he, Result.andThen_ok]; rfl
  simp only [execOp, hx, hy, Sem.run_bind, h2, h3, Result.andThen_ok]
  rfl
theorem rx_neqAgg {T T' : TypeId} [hC : Cmp P T] {x y : Operand} {xs ys : Array Value} {r : Bool} (hx : a.eval x = .agg xs) (hy : a.eval y = .agg ys) (he : (Op.equal T (.agg xs) (.agg ys)).run P w = .ok r w) :
    (execOp a.eval { dst := dst, op := .binOp .neq T x y T', type := ty, pos := pos, after := af, guard := g }).run P w = .ok (.value (.bool (!r))) w := by
  have h3 : (eqGuard .neq T x y (.agg xs) (.agg ys)).run P w = .ok () w := by simp [eqGuard, hC.guard]
  have h2 : (binOp .neq T (.agg xs) (.agg ys)).run P w = .ok (.bool (!r)) w := by
    simp only [binOp, Sem.run_bind, he, Result.andThen_ok]; rfl
  simp only [execOp, hx, hy, Sem.run_bind, h2, h3, Result.andThen_ok]
  rfl
theorem rx_neqB {T T' : TypeId} [hC : Cmp P T] {x y : Operand} {xs ys : Array Value} {r B : Bool} (hx : a.eval x = .agg xs) (hy : a.eval y = .agg ys) (he : (Op.equal T (.agg xs) (.agg ys)).run P w = .ok r w) (hB : r = !B) :
    (execOp a.eval { dst := dst, op := .binOp .neq T x y T', type := ty, pos := pos, after := af, guard := g }).run P w = .ok (.value (.bool B)) w := by
  have := rx_neqAgg (hC := hC) (dst := dst) (T' := T') (ty := ty) (pos := pos) (af := af) (g := g) hx hy he
  rw [hB, Bool.not_not] at this
  exact this
theorem rx_eqlB {T T' : TypeId} [hC : Cmp P T] {x y : Operand} {xs ys : Array Value} {r B : Bool} (hx : a.eval x = .agg xs) (hy : a.eval y = .agg ys) (he : (Op.equal T (.agg xs) (.agg ys)).run P w = .ok r w) (hB : r = B) :
    (execOp a.eval { dst := dst, op := .binOp .eql T x y T', type := ty, pos := pos, after := af, guard := g }).run P w = .ok (.value (.bool B)) w := by
  subst hB
  exact rx_eqlAgg hx hy he
end
end

instance : BoolT Tryd.prog 4 := ⟨by kernel_rfl⟩
instance : Cmp Tryd.prog 25 := ⟨by kernel_rfl⟩
instance : Cmp Tryd.prog 39 := ⟨by kernel_rfl⟩
instance : Cmp Tryd.prog 63 := ⟨by kernel_rfl⟩
instance : Cmp Tryd.prog 71 := ⟨by kernel_rfl⟩
instance : FieldsAt Tryd.prog 39 [(true, 25, 0), (true, 3, 32), (true, 3, 33)] := ⟨by kernel_rfl, by kernel_rfl, by kernel_rfl⟩
instance : FieldsAt Tryd.prog 63 [(true, 3, 0), (true, 3, 1), (true, 3, 2), (true, 3, 3), (true, 3, 4)] := ⟨by kernel_rfl, by kernel_rfl, by kernel_rfl⟩
instance : FieldsAt Tryd.prog 71 [(true, 3, 0), (true, 3, 1), (true, 4, 2)] := ⟨by kernel_rfl, by kernel_rfl, by kernel_rfl⟩

theorem infoU8 : ∃ i, (Tryd.prog).info? 5 = some i := by
  have h : ((Tryd.prog).info? 5).isSome = true := by kernel_rfl
  exact Option.isSome_iff_exists.1 h
theorem cellsU8 : (Tryd.prog).cellsOf 5 = 1 := by kernel_rfl

theorem getD_ext (l m : List UInt8) (hl : l.length = m.length) : (∀ i, i < l.length → l.getD i 0 = m.getD i 0) → l = m := fun h => by
  apply List.ext_getElem hl
  intro i h1 h2
  have := h i h1
  simpa [List.getD_eq_getElem?_getD, List.getElem?_eq_getElem h1, List.getElem?_eq_getElem h2] using this

theorem eqIn_dig (d : Nat) (x y : Dig) (w : World) : (Op.equalIn (d + 2) 25 (dV x) (dV y)).run Tryd.prog w = .ok (decide (x = y)) w := by
  obtain ⟨i, hi⟩ := infoU8
  have := run_equalIn_array (P := Tryd.prog) w (d + 1) (t := 25) (dcells x).toArray (dcells y).toArray ArrOf.arr hi
  rw [dV, dV, this, cellsU8, dcells, dcells, eqItems_bytes d x.l y.l (List.range 32) w (fun i hi => by rw [x.h, y.h]; simp at hi; omega)]
  refine congrArg (fun r => Result.ok r w) ?_
  apply Bool.eq_iff_iff.2
  simp only [List.all_eq_true, List.mem_range, beq_iff_eq, decide_eq_true_eq]
  constructor
  · intro h
    exact Dig.ext' (getD_ext _ _ (by rw [x.h, y.h]) (fun i hi => h i (by rw [x.h] at hi; exact hi)))
  · rintro rfl i _; rfl

theorem eq_dig (x y : Dig) (w : World) : (Op.equal 25 (.agg (dcells x).toArray) (.agg (dcells y).toArray)).run Tryd.prog w = .ok (decide (x = y)) w := eqIn_dig 9998 x y w

theorem eq_node (x y : Node) (w : World) : (Op.equal 39 (.agg (ncells x).toArray) (.agg (ncells y).toArray)).run Tryd.prog w = .ok (decide (x = y)) w := by
  have h32 : ∀ z : Node, (ncells z)[32]? = some (.int .i64 z.c) := fun z => by
    have : (dcells z.d).length = 32 := dcells_length _
    simp [ncells, List.getElem?_append_right, this]
  have h33 : ∀ z : Node, (ncells z)[33]? = some (.int .i64 z.p) := fun z => by
    have : (dcells z.d).length = 32 := dcells_length _
    simp [ncells, List.getElem?_append_right, this]
  have h0 : ∀ z : Node, ((ncells z).drop 0).take 32 = dcells z.d := fun z => by
    rw [List.drop_zero, ncells, List.take_append_of_le_length (by rw [dcells_length]; omega), List.take_of_length_le (by rw [dcells_length]; omega)]
  have := run_eqStruct (P := Tryd.prog) (T := 39) 9999 (ncells x).toArray (ncells y).toArray [decide (x.d = y.d), decide (x.c = y.c), decide (x.p = y.p)] w rfl (fun i t r h1 h2 => by
    rcases i with _ | _ | _ | i
    · cases h1; cases h2; exact ⟨rfl, _, _, part_row (h0 x) w, part_row (h0 y) w, eqIn_dig 9997 x.d y.d w⟩
    · cases h1; cases h2; exact ⟨rfl, _, _, part_one (h32 x) w, part_one (h32 y) w, eq_int 9998 _ _ w⟩
    · cases h1; cases h2; exact ⟨rfl, _, _, part_one (h33 x) w, part_one (h33 y) w, eq_int 9998 _ _ w⟩
    · simp at h1)
  refine Eq.trans this ?_
  refine congrArg (fun r => Result.ok r w) ?_
  obtain ⟨d1, c1, p1⟩ := x
  obtain ⟨d2, c2, p2⟩ := y
  apply Bool.eq_iff_iff.2
  simp

theorem eq_line (x y : Line) (w : World) : (Op.equal 63 (.agg (lcells x).toArray) (.agg (lcells y).toArray)).run Tryd.prog w = .ok (decide (x = y)) w := by
  have := run_eqStruct (P := Tryd.prog) (T := 63) 9999 (lcells x).toArray (lcells y).toArray [decide (x.course = y.course), decide (x.term = y.term), decide (x.grade = y.grade), decide (x.credits = y.credits), decide (x.campus = y.campus)] w rfl (fun i t r h1 h2 => by
    rcases i with _ | _ | _ | _ | _ | i
    · cases h1; cases h2; exact ⟨rfl, _, _, part_one rfl w, part_one rfl w, eq_int 9998 _ _ w⟩
    · cases h1; cases h2; exact ⟨rfl, _, _, part_one rfl w, part_one rfl w, eq_int 9998 _ _ w⟩
    · cases h1; cases h2; exact ⟨rfl, _, _, part_one rfl w, part_one rfl w, eq_int 9998 _ _ w⟩
    · cases h1; cases h2; exact ⟨rfl, _, _, part_one rfl w, part_one rfl w, eq_int 9998 _ _ w⟩
    · cases h1; cases h2; exact ⟨rfl, _, _, part_one rfl w, part_one rfl w, eq_int 9998 _ _ w⟩
    · simp at h1)
  refine Eq.trans this ?_
  refine congrArg (fun r => Result.ok r w) ?_
  obtain ⟨a1, a2, a3, a4, a5⟩ := x
  obtain ⟨b1, b2, b3, b4, b5⟩ := y
  apply Bool.eq_iff_iff.2
  simp

theorem eq_claim (x y : Claim) (w : World) : (Op.equal 71 (.agg (ccells x).toArray) (.agg (ccells y).toArray)).run Tryd.prog w = .ok (decide (x = y)) w := by
  have := run_eqStruct (P := Tryd.prog) (T := 71) 9999 (ccells x).toArray (ccells y).toArray [decide (x.prog = y.prog), decide (x.req = y.req), decide (x.met = y.met)] w rfl (fun i t r h1 h2 => by
    rcases i with _ | _ | _ | i
    · cases h1; cases h2; exact ⟨rfl, _, _, part_one rfl w, part_one rfl w, eq_int 9998 _ _ w⟩
    · cases h1; cases h2; exact ⟨rfl, _, _, part_one rfl w, part_one rfl w, eq_int 9998 _ _ w⟩
    · cases h1; cases h2; exact ⟨rfl, _, _, part_one rfl w, part_one rfl w, eq_bool 9998 _ _ w⟩
    · simp at h1)
  refine Eq.trans this ?_
  refine congrArg (fun r => Result.ok r w) ?_
  obtain ⟨a1, a2, a3⟩ := x
  obtain ⟨b1, b2, b3⟩ := y
  apply Bool.eq_iff_iff.2
  simp

theorem ret_cell3 {P : Program} {a : Act} {w0 w : World} {X : List Nat} {hs : List Ent} {fn : Func} {R : Ending → World → Prop} {p q s : Tmp} {T n : Nat} [IsRow P T n] (hr : fn.results = #[.cell p T, .tmp q, .tmp s]) {b : Nat} {B : TypeId} {cs : List Value} {v u : Value} (hM : Mem w0 X hs w)
    (hp : a.tmps.getD p undef = .pointer (some ⟨b, 0, none⟩)) (hm : (b, B, cs) ∈ hs) (hn : cs.length = n) (hq : a.tmps.getD q undef = v) (hs' : a.tmps.getD s undef = u) (hd : a.defers = []) (hR : R (.returned (.tuple #[.agg cs.toArray, v, u])) w) : bodyPost P fn R .ret a w := by
  refine ⟨hd, .tuple #[.agg cs.toArray, v, u], ?_, hR⟩
  have hp' : a.tmps[p]?.getD undef = .pointer (some ⟨b, 0, none⟩) := by simpa using hp
  have hq' : a.tmps[q]?.getD undef = v := by simpa using hq
  have hs'' : a.tmps[s]?.getD undef = u := by simpa using hs'
  simp [results, hr, hp', hq', hs'', asAddr, run_cell hM hm hn]

section
open Go Go.RowKit

section
variable {P : Program} {a : Act} {dst : Option Tmp} {ty : TypeId} {pos : String} {af : Array Edge} {g : Option (Nat × Bool)}
theorem rx_buildShn {T : TypeId} [hS : StructOf P T (shcells zeroShn) [(0, 1), (1, 5), (6, 32), (38, 1)]] {x y z u : Operand} {i : Int} {l : Line} {d : Dig} {A : Option Addr} {n c : Nat} (hx : a.eval x = .int .i64 i) (hy : a.eval y = .agg (lcells l).toArray) (hz : a.eval z = .agg (dcells d).toArray) (hu : a.eval u = .slice A n c) (w : World) :
    (execOp a.eval { dst := dst, op := .build T #[(0, x), (1, y), (2, z), (3, u)], type := ty, pos := pos, after := af, guard := g }).run P w = .ok (.value (.agg (shcells ⟨i, l, d, A, n, c⟩).toArray)) w := by
  refine rx_buildAll (R := shcells ⟨i, l, d, A, n, c⟩) ?_ ?_ w
  · simp only [List.map_cons, List.map_nil, hx, hy, hz, hu]
    exact .cons (s := 1) rfl rfl (.cons (s := 5) rfl rfl (.cons (s := 32) rfl (by simp [cells_agg]) (.cons (s := 1) rfl rfl (.nil _))))
  · simp only [List.map_cons, List.map_nil, hx, hy, hz, hu, List.flatten_cons, List.flatten_nil, cells_int, cells_agg, cells_slice, List.toList_toArray]
    rfl
theorem rx_buildMtt {T : TypeId} [hS : StructOf P T (mtcells zeroMtt) [(0, 1), (1, 3), (4, 32), (36, 1)]] {x y z u : Operand} {i : Int} {l : Claim} {d : Dig} {A : Option Addr} {n c : Nat} (hx : a.eval x = .int .i64 i) (hy : a.eval y = .agg (ccells l).toArray) (hz : a.eval z = .agg (dcells d).toArray) (hu : a.eval u = .slice A n c) (w : World) :
    (execOp a.eval { dst := dst, op := .build T #[(0, x), (1, y), (2, z), (3, u)], type := ty, pos := pos, after := af, guard := g }).run P w = .ok (.value (.agg (mtcells ⟨i, l, d, A, n, c⟩).toArray)) w := by
  refine rx_buildAll (R := mtcells ⟨i, l, d, A, n, c⟩) ?_ ?_ w
  · simp only [List.map_cons, List.map_nil, hx, hy, hz, hu]
    exact .cons (s := 1) rfl rfl (.cons (s := 3) rfl rfl (.cons (s := 32) rfl (by simp [cells_agg]) (.cons (s := 1) rfl rfl (.nil _))))
  · simp only [List.map_cons, List.map_nil, hx, hy, hz, hu, List.flatten_cons, List.flatten_nil, cells_int, cells_agg, cells_slice, List.toList_toArray]
    rfl
end
theorem splice_mid (a b c v : List Value) (o : Nat) (ho : a.length = o) (hv : v.length = b.length) : splice (a ++ b ++ c) o v = a ++ v ++ c := by
  subst ho
  simp [splice, List.drop_append, hv, List.drop_of_length_le]
end
end Go.Proofs.YtelnilllleempaaDoor
