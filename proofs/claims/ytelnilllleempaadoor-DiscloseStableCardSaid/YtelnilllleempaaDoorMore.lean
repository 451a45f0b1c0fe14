/- Structs out of their fields; more types; operations that are passed over. -/
import Derived.Test.YtelnilllleempaaDoorTypes
namespace Go.Proofs.YtelnilllleempaaDoor
set_option linter.all false
open Go Go.RowKit

class StructOf (P : Program) (T : TypeId) (zs : outParam (List Value)) (pl : outParam (List (Nat × Nat))) : Prop where
  under : P.underlying T = some (.struct (P.fieldsOf T))
  zero : ((P.info? T).bind (·.zero)).map (·.cells.toList) = some zs
  places : (P.fieldsOf T).toList.map (fun f => (f.offset, (P.info? f.type).map (·.size))) = pl.map fun p => (p.1, some p.2)

theorem run_places {P : Program} (w : World) : ∀ (fs : List Field) (pl : List (Nat × Nat)), fs.map (fun f => (f.offset, (P.info? f.type).map (·.size))) = pl.map (fun p => (p.1, some p.2)) →
    (fs.mapM fun (f : Field) => do pure (f.offset, ← sizeOf f.type)).run P w = .ok pl w
  | [], [], _ => rfl
  | [], _ :: _, h => by simp at h
  | _ :: _, [], h => by simp at h
  | f :: fs, p :: pl, h => by
    simp only [List.map_cons, List.cons.injEq, Prod.mk.injEq] at h
    rw [List.mapM_cons]
    simp only [Sem.run_bind, run_sizeOf h.1.2, Result.andThen_ok, Sem.run_pure, run_places w fs pl h.2, h.1.1]

theorem fill_cons {place : Nat → Option (Nat × Nat)} {cells : Array Value} {i off size : Nat} {v : Value} {rest : List (Nat × Value)} (h : place i = some (off, size)) (hs : v.cells.size = size) (hl : off + size ≤ cells.size) :
    Instr.fill place cells ((i, v) :: rest) = Instr.fill place (splice cells.toList off v.cells.toList).toArray rest := by
  have hf := fold_splice off v.cells.toList 0 cells (by simp [hs]; omega)
  simp only [Nat.add_zero] at hf
  have hz : v.cells.zipIdx.foldl (fun cs (c, j) => cs.setIfInBounds (off + j) c) cells = (v.cells.toList.zipIdx 0).foldl (fun cs (c, j) => cs.setIfInBounds (off + j) c) cells := by
    rw [← Array.foldl_toList]; simp
  simp only [Instr.fill, h]
  rw [if_neg (by simp [hs]; omega), hz, hf]

section
variable {P : Program} {Q : Exit → Act → World → Prop} {K : Act → World → Prop} {a : Act} {w : World} {dst : Option Tmp} {ty : TypeId} {pos : String} {af : Array Edge} {g : Option (Nat × Bool)}
theorem rx_buildS {T : TypeId} {zs R : List Value} {pl : List (Nat × Nat)} [hS : StructOf P T zs pl] {parts : Array (Nat × Operand)}
    (hf : Instr.fill (pl.toArray[·]?) zs.toArray (parts.map fun p => (p.1, a.eval p.2)).toList = some R.toArray) (w : World) :
    (execOp a.eval { dst := dst, op := .build T parts, type := ty, pos := pos, after := af, guard := g }).run P w = .ok (.value (.agg R.toArray)) w := by
  have hz := hS.zero
  cases hq : P.info? T with
  | none => simp [hq] at hz
  | some i =>
    cases hzz : i.zero with
    | none => simp [hq, hzz] at hz
    | some z =>
      have hzc : z.cells = zs.toArray := by simp [hq, hzz] at hz; rw [← hz]
      have hzv : (zeroValue T).run P w = .ok z w := by simp [zeroValue, typeInfo, hq, hzz]
      have hpl := run_places (P := P) w _ _ hS.places
      have hpa : ((P.fieldsOf T).mapM fun (f : Field) => do pure (f.offset, ← sizeOf f.type)).run P w = .ok pl.toArray w := by
        have : (P.fieldsOf T) = (P.fieldsOf T).toList.toArray := by simp
        rw [this, List.mapM_toArray]
        simp only [map_eq_pure_bind, Sem.run_bind, hpl, Result.andThen_ok, Sem.run_pure]
      have hb : (Instr.build T (parts.map fun p => (p.1, a.eval p.2))).run P w = .ok (.agg R.toArray) w := by
        simp only [Instr.build, Sem.run_bind, hzv, Result.andThen_ok, run_underlying hS.under, hpa, hzc, hf, Sem.run_pure]
      simp [execOp, hb]

theorem rx_buildNode {T : TypeId} [hS : StructOf P T (ncells zeroNode) [(0, 32), (32, 1), (33, 1)]] {x y z : Operand} {d : Dig} {c p : Int} (hx : a.eval x = dV d) (hy : a.eval y = .int .i64 c) (hz : a.eval z = .int .i64 p) (w : World) :
    (execOp a.eval { dst := dst, op := .build T #[(0, x), (1, y), (2, z)], type := ty, pos := pos, after := af, guard := g }).run P w = .ok (.value (nV ⟨d, c, p⟩)) w := by
  refine rx_buildS (R := ncells ⟨d, c, p⟩) ?_ w
  simp only [List.map_toArray, List.map_cons, List.map_nil, hx, hy, hz]
  rw [fill_cons (off := 0) (size := 32) rfl (by simp) (by simp), fill_cons (off := 32) (size := 1) rfl rfl (by simp [splice, cells_int]), fill_cons (off := 33) (size := 1) rfl rfl (by simp [splice, cells_int])]
  simp only [Instr.fill]
  congr 1
  have e0 : ncells zeroNode = dcells zeroDig ++ [.int .i64 0, .int .i64 0] := rfl
  simp only [e0, dV_cells, cells_int, List.toList_toArray, List.size_toArray]
  simp [splice, ncells, List.take_append, List.drop_append, List.take_of_length_le, List.drop_of_length_le]
end
instance : StructOf Tryd.prog 39 (ncells zeroNode) [(0, 32), (32, 1), (33, 1)] := ⟨by kernel_rfl, by kernel_rfl, by kernel_rfl⟩

section
open Go Go.RowKit

section
variable {P : Program} {ops : Array Oper} {Q : Exit → Act → World → Prop} {md : Region.Mode} {S : World → Prop} {U : List Nat}
/-- number i is passed over -/
theorem wpB.takeOff {oi : Oper} {n : Nat} {listed : Array Bool} {a : Act} {w : World} (i : Nat) (hi : ops[i]? = some oi)
    (hc : (Region.noSelect ops && Region.free md ops listed i && (Region.ready md ops listed).contains i && shutB md ops listed && !U.contains i) = true)
    (hQ : PanicQ Q) (hS : clean U listed = true → S w)
    (hw : Region.wanted oi (yielded ops a.tmps) = false)
    (h : wpB P md ops Q S U n (listed.setIfInBounds i true) (a.put oi.dst undef) w) : wpB P md ops Q S U (n + 1) listed a w := by
  simp only [Bool.and_eq_true, Bool.not_eq_true'] at hc
  obtain ⟨⟨⟨⟨h1, h2⟩, h3⟩, h4⟩, h5⟩ := hc
  exact wpB.first (T := fun _ => True) hi (Region.noSelect_spec h1) (fun c a w => hQ.ok c _ _ a w) (by simpa using h5) (.inl fun _ => trivial) n listed a w (Region.free_spec hi h2) (by simpa using h3) (shutB_spec h4) (.inr ⟨hw, rfl⟩) hS h
end

/-- the parts fill the whole, one behind the other -/
inductive Fits (place : Nat → Option (Nat × Nat)) : Nat → List (Nat × Value) → Nat → Prop
  | nil (o : Nat) : Fits place o [] o
  | cons {i o s e : Nat} {v : Value} {ps : List (Nat × Value)} (h : place i = some (o, s)) (hs : v.cells.size = s) (hr : Fits place (o + s) ps e) : Fits place o ((i, v) :: ps) e
theorem Fits.le {place : Nat → Option (Nat × Nat)} {o e : Nat} {ps : List (Nat × Value)} (h : Fits place o ps e) : o ≤ e := by
  induction h with
  | nil o => omega
  | cons _ _ _ ih => omega
theorem Fits.fill {place : Nat → Option (Nat × Nat)} {o e : Nat} {ps : List (Nat × Value)} (h : Fits place o ps e) : ∀ cells : List Value, cells.length = e → Instr.fill place cells.toArray ps = some (cells.take o ++ (ps.map (·.2.cells.toList)).flatten).toArray := by
  induction h with
  | nil o => intro cells hl; simp [Instr.fill, ← hl]
  | cons hp hs hr ih =>
    intro cells hl
    have hle := hr.le
    rw [fill_cons hp hs (by simp; omega), ih _ (by rw [splice_length (by simp [hs]; omega)]; simpa using hl)]
    congr 2
    simp only [splice, List.map_cons, List.flatten_cons]
    rename_i i o s e v ps
    have h2 : o + s = (cells.take o ++ v.cells.toList).length := by simp [hs]; omega
    rw [h2, List.take_left, List.append_assoc]

/-- the parts fill some places -/
inductive Fills (place : Nat → Option (Nat × Nat)) : List Value → List (Nat × Value) → List Value → Prop
  | nil (cells : List Value) : Fills place cells [] cells
  | cons {i o s : Nat} {v : Value} {cells R : List Value} {ps : List (Nat × Value)} (h : place i = some (o, s)) (hs : v.cells.size = s) (hl : o + s ≤ cells.length) (hr : Fills place (splice cells o v.cells.toList) ps R) : Fills place cells ((i, v) :: ps) R
theorem Fills.fill {place : Nat → Option (Nat × Nat)} {cells R : List Value} {ps : List (Nat × Value)} (h : Fills place cells ps R) : Instr.fill place cells.toArray ps = some R.toArray := by
  induction h with
  | nil cells => rfl
  | cons hp hs hl hr ih => rw [fill_cons hp hs (by simpa using hl)]; exact ih

section
variable {P : Program} {Q : Exit → Act → World → Prop} {K : Act → World → Prop} {a : Act} {w : World} {dst : Option Tmp} {ty : TypeId} {pos : String} {af : Array Edge} {g : Option (Nat × Bool)}
theorem rx_buildAll {T : TypeId} {zs R : List Value} {pl : List (Nat × Nat)} [hS : StructOf P T zs pl] {parts : Array (Nat × Operand)}
    (hf : Fits (pl.toArray[·]?) 0 (parts.toList.map fun p => (p.1, a.eval p.2)) zs.length) (hR : ((parts.toList.map fun p => (p.1, a.eval p.2)).map (·.2.cells.toList)).flatten = R) (w : World) :
    (execOp a.eval { dst := dst, op := .build T parts, type := ty, pos := pos, after := af, guard := g }).run P w = .ok (.value (.agg R.toArray)) w := by
  refine rx_buildS ?_ w
  have := hf.fill zs rfl
  rw [List.take_zero, List.nil_append, hR] at this
  rw [Array.toList_map]
  exact this
theorem rx_cmpB {op : BinOp} {T T' : TypeId} {x y : Operand} {k : IntKind} {p q : Int} {B : Bool} (hop : (op = .lss ∨ op = .leq ∨ op = .gtr ∨ op = .geq ∨ op = .eql ∨ op = .neq)) (hx : a.eval x = .int k p) (hy : a.eval y = .int k q) (hB : cmpB op p q = B) (w : World) :
    (execOp a.eval { dst := dst, op := .binOp op T x y T', type := ty, pos := pos, after := af, guard := g }).run P w = .ok (.value (.bool B)) w := by
  subst hB
  simp only [execOp, hx, hy, cmp_run op hop]
  rcases hop with rfl | rfl | rfl | rfl | rfl | rfl <;> rfl
theorem rx_buildSome {T : TypeId} {zs R : List Value} {pl : List (Nat × Nat)} [hS : StructOf P T zs pl] {parts : Array (Nat × Operand)}
    (hf : Fills (pl.toArray[·]?) zs (parts.toList.map fun p => (p.1, a.eval p.2)) R) (w : World) :
    (execOp a.eval { dst := dst, op := .build T parts, type := ty, pos := pos, after := af, guard := g }).run P w = .ok (.value (.agg R.toArray)) w := by
  refine rx_buildS ?_ w
  rw [Array.toList_map]
  exact hf.fill
end

/-! the data -/
structure Trn where
  campus : Int
  student : Int
  version : Int
  known : Int
  A : Option Addr
  n : Nat
  c : Nat
  B : Option Addr
  m : Nat
  d : Nat
  salt : Dig
def tcells (t : Trn) : List Value := [.int .i64 t.campus, .int .i64 t.student, .int .i64 t.version, .int .i64 t.known, .slice t.A t.n t.c, .slice t.B t.m t.d] ++ dcells t.salt
@[simp] theorem tcells_length (t : Trn) : (tcells t).length = 38 := by simp [tcells]
def tV (t : Trn) : Value := .agg (tcells t).toArray
theorem tcells_one (t : Trn) : ∀ u ∈ tcells t, u.oneCell' = true := fun u hu => by
  rcases List.mem_append.1 hu with h | h
  · simp at h; rcases h with rfl | rfl | rfl | rfl | rfl | rfl <;> rfl
  · exact dcells_one _ u h
theorem tc_salt (t : Trn) : ((tcells t).drop 6).take 32 = dcells t.salt := by
  simp [tcells, List.take_of_length_le]

structure Rt where
  campus : Int
  student : Int
  version : Int
  known : Int
  lines : Int
  claims : Int
  tree : Node
  listed : Dig
  claimed : Dig
  prev : Dig
  sr : Int
  ss : Int
deriving DecidableEq
def rcells (r : Rt) : List Value := [.int .i64 r.campus, .int .i64 r.student, .int .i64 r.version, .int .i64 r.known, .int .i64 r.lines, .int .i64 r.claims] ++ (ncells r.tree ++ (dcells r.listed ++ (dcells r.claimed ++ (dcells r.prev ++ [.int .i64 r.sr, .int .i64 r.ss]))))
@[simp] theorem rcells_length (r : Rt) : (rcells r).length = 138 := by simp [rcells]
def rV (r : Rt) : Value := .agg (rcells r).toArray
theorem rcells_one (r : Rt) : ∀ u ∈ rcells r, u.oneCell' = true := fun u hu => by
  simp only [rcells, List.mem_append] at hu
  rcases hu with h | h | h | h | h | h
  · simp at h; rcases h with rfl | rfl | rfl | rfl | rfl | rfl <;> rfl
  · exact ncells_one _ u h
  · exact dcells_one _ u h
  · exact dcells_one _ u h
  · exact dcells_one _ u h
  · simp at h; rcases h with rfl | rfl <;> rfl
theorem rc_tree (r : Rt) : ((rcells r).drop 6).take 34 = ncells r.tree := by
  simp only [rcells]
  rw [List.drop_append_of_le_length (by simp)]
  simp [List.take_append, List.take_of_length_le]
theorem rc_listed (r : Rt) : ((rcells r).drop 40).take 32 = dcells r.listed := by
  simp only [rcells]
  rw [List.drop_append, List.drop_append]
  simp [List.take_append, List.take_of_length_le, List.drop_of_length_le]
theorem rc_claimed (r : Rt) : ((rcells r).drop 72).take 32 = dcells r.claimed := by
  simp only [rcells]
  rw [List.drop_append, List.drop_append, List.drop_append]
  simp [List.take_append, List.take_of_length_le, List.drop_of_length_le]

structure Shn where
  at_ : Int
  line : Line
  salt : Dig
  A : Option Addr
  n : Nat
  c : Nat
def shcells (s : Shn) : List Value := [.int .i64 s.at_] ++ (lcells s.line ++ (dcells s.salt ++ [.slice s.A s.n s.c]))
@[simp] theorem shcells_length (s : Shn) : (shcells s).length = 39 := by simp [shcells]
def shV (s : Shn) : Value := .agg (shcells s).toArray
theorem shcells_one (s : Shn) : ∀ u ∈ shcells s, u.oneCell' = true := fun u hu => by
  simp only [shcells, List.mem_append] at hu
  rcases hu with h | h | h | h
  · simp at h; rcases h with rfl; rfl
  · exact lcells_one _ u h
  · exact dcells_one _ u h
  · simp at h; rcases h with rfl; rfl
theorem shc_line (s : Shn) : ((shcells s).drop 1).take 5 = lcells s.line := List.take_left' (l₁ := lcells s.line) rfl
theorem shc_salt (s : Shn) : ((shcells s).drop 6).take 32 = dcells s.salt := by
  simp only [shcells]
  rw [List.drop_append, List.drop_append]
  simp [List.take_append, List.take_of_length_le, List.drop_of_length_le]
theorem shc_at (s : Shn) : (shcells s)[0]? = some (.int .i64 s.at_) := rfl
theorem shc_path (s : Shn) : (shcells s)[38]? = some (.slice s.A s.n s.c) := by
  have h : (dcells s.salt).length = 32 := dcells_length _
  simp only [shcells]
  rw [List.getElem?_append_right (by simp), List.getElem?_append_right (by simp), List.getElem?_append_right (by simp)]
  simp

structure Mtt where
  at_ : Int
  claim : Claim
  salt : Dig
  A : Option Addr
  n : Nat
  c : Nat
def mtcells (s : Mtt) : List Value := [.int .i64 s.at_] ++ (ccells s.claim ++ (dcells s.salt ++ [.slice s.A s.n s.c]))
@[simp] theorem mtcells_length (s : Mtt) : (mtcells s).length = 37 := by simp [mtcells]
def mtV (s : Mtt) : Value := .agg (mtcells s).toArray
theorem mtcells_one (s : Mtt) : ∀ u ∈ mtcells s, u.oneCell' = true := fun u hu => by
  simp only [mtcells, List.mem_append] at hu
  rcases hu with h | h | h | h
  · simp at h; rcases h with rfl; rfl
  · exact ccells_one _ u h
  · exact dcells_one _ u h
  · simp at h; rcases h with rfl; rfl
theorem mtc_claim (s : Mtt) : ((mtcells s).drop 1).take 3 = ccells s.claim := List.take_left' (l₁ := ccells s.claim) rfl
theorem mtc_salt (s : Mtt) : ((mtcells s).drop 4).take 32 = dcells s.salt := by
  simp only [mtcells]
  rw [List.drop_append, List.drop_append]
  simp [List.take_append, List.take_of_length_le, List.drop_of_length_le]
theorem mtc_at (s : Mtt) : (mtcells s)[0]? = some (.int .i64 s.at_) := rfl
theorem mtc_path (s : Mtt) : (mtcells s)[36]? = some (.slice s.A s.n s.c) := by
  have h : (dcells s.salt).length = 32 := dcells_length _
  simp only [mtcells]
  rw [List.getElem?_append_right (by simp), List.getElem?_append_right (by simp), List.getElem?_append_right (by simp)]
  simp

theorem cells_tV (t : Trn) : (tV t).cells = (tcells t).toArray := rfl
theorem cells_rV (t : Rt) : (rV t).cells = (rcells t).toArray := rfl
theorem cells_shV (t : Shn) : (shV t).cells = (shcells t).toArray := rfl
theorem cells_mtV (t : Mtt) : (mtV t).cells = (mtcells t).toArray := rfl

def zeroLine : Line := ⟨0, 0, 0, 0, 0⟩
def zeroClaim : Claim := ⟨0, 0, false⟩
def zeroTrn : Trn := ⟨0, 0, 0, 0, none, 0, 0, none, 0, 0, zeroDig⟩
def zeroRt : Rt := ⟨0, 0, 0, 0, 0, 0, zeroNode, zeroDig, zeroDig, zeroDig, 0, 0⟩
def zeroShn : Shn := ⟨0, zeroLine, zeroDig, none, 0, 0⟩
def zeroMtt : Mtt := ⟨0, zeroClaim, zeroDig, none, 0, 0⟩

instance : IsOne Tryd.prog 123 := ⟨by kernel_rfl, by kernel_rfl⟩
instance : IsOne Tryd.prog 124 := ⟨by kernel_rfl, by kernel_rfl⟩
instance : IsOne Tryd.prog 125 := ⟨by kernel_rfl, by kernel_rfl⟩
instance : IsOne Tryd.prog 130 := ⟨by kernel_rfl, by kernel_rfl⟩
instance : IsOne Tryd.prog 131 := ⟨by kernel_rfl, by kernel_rfl⟩
instance : IsOne Tryd.prog 132 := ⟨by kernel_rfl, by kernel_rfl⟩
instance : IsOne Tryd.prog 166 := ⟨by kernel_rfl, by kernel_rfl⟩
instance : ZeroOf Tryd.prog 166 [.nilFunc] := ⟨by kernel_rfl⟩
instance : ZeroOf Tryd.prog 3 [.int .i64 0] := ⟨by kernel_rfl⟩
instance : IsRow Tryd.prog 127 4 := ⟨by kernel_rfl, by kernel_rfl⟩
instance : IsRow Tryd.prog 134 4 := ⟨by kernel_rfl, by kernel_rfl⟩
instance : ZeroOf Tryd.prog 127 [.int .i64 0, .nilFunc, .nilFunc, .nilFunc] := ⟨by kernel_rfl⟩
instance : ZeroOf Tryd.prog 134 [.int .i64 0, .nilFunc, .nilFunc, .nilFunc] := ⟨by kernel_rfl⟩
instance : IsRow Tryd.prog 66 39 := ⟨by kernel_rfl, by kernel_rfl⟩
instance : IsRow Tryd.prog 73 37 := ⟨by kernel_rfl, by kernel_rfl⟩
instance : ZeroOf Tryd.prog 66 (shcells zeroShn) := ⟨by kernel_rfl⟩
instance : ZeroOf Tryd.prog 73 (mtcells zeroMtt) := ⟨by kernel_rfl⟩
instance : ZeroOf Tryd.prog 27 (tcells zeroTrn) := ⟨by kernel_rfl⟩
instance : ZeroOf Tryd.prog 43 (rcells zeroRt) := ⟨by kernel_rfl⟩
instance : StructOf Tryd.prog 66 (shcells zeroShn) [(0, 1), (1, 5), (6, 32), (38, 1)] := ⟨by kernel_rfl, by kernel_rfl, by kernel_rfl⟩
instance : StructOf Tryd.prog 73 (mtcells zeroMtt) [(0, 1), (1, 3), (4, 32), (36, 1)] := ⟨by kernel_rfl, by kernel_rfl, by kernel_rfl⟩
instance : StructOf Tryd.prog 27 (tcells zeroTrn) [(0, 1), (1, 1), (2, 1), (3, 1), (4, 1), (5, 1), (6, 32)] := ⟨by kernel_rfl, by kernel_rfl, by kernel_rfl⟩
instance : StructOf Tryd.prog 43 (rcells zeroRt) [(0, 1), (1, 1), (2, 1), (3, 1), (4, 1), (5, 1), (6, 34), (40, 32), (72, 32), (104, 32), (136, 2)] := ⟨by kernel_rfl, by kernel_rfl, by kernel_rfl⟩
instance : StructOf Tryd.prog 127 [.int .i64 0, .nilFunc, .nilFunc, .nilFunc] [(0, 1), (1, 1), (2, 1), (3, 1)] := ⟨by kernel_rfl, by kernel_rfl, by kernel_rfl⟩
instance : StructOf Tryd.prog 134 [.int .i64 0, .nilFunc, .nilFunc, .nilFunc] [(0, 1), (1, 1), (2, 1), (3, 1)] := ⟨by kernel_rfl, by kernel_rfl, by kernel_rfl⟩
end
end Go.Proofs.YtelnilllleempaaDoor
