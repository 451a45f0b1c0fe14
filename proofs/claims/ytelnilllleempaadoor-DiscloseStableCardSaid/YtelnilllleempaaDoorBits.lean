/- Words of 32 bits: the operations on them, as the walk meets them. -/
import Derived.Test.YtelnilllleempaaDoorSlice
namespace Go.Proofs.YtelnilllleempaaDoor
set_option linter.all false
open Go Go.RowKit

abbrev Wd := BitVec 32
def wV (x : Wd) : Value := .int .u32 x.toNat
theorem wV_one (x : Wd) : (wV x).oneCell' = true := rfl
theorem cells_wV (x : Wd) : (wV x).cells = #[wV x] := rfl

theorem wrap32_lt (n : Nat) (h : n < 4294967296) : IntKind.u32.wrap (n : Int) = n := by rw [IntKind.wrap_u32]; omega
theorem ofInt32 (x : Wd) : BitVec.ofInt 32 (x.toNat : Int) = x := by simp
theorem xor32 (p q : Wd) : Op.intBits .xor .u32 p.toNat q.toNat = pure (wV (p ^^^ q)) := by
  have : Op.intBits .xor .u32 p.toNat q.toNat = pure (.int .u32 (IntKind.u32.wrap ((BitVec.ofInt 32 (p.toNat : Int) ^^^ BitVec.ofInt 32 (q.toNat : Int)).toNat : Int))) := rfl
  rw [this, ofInt32, ofInt32, wrap32_lt _ (p ^^^ q).isLt]; rfl
theorem and32 (p q : Wd) : Op.intBits .and .u32 p.toNat q.toNat = pure (wV (p &&& q)) := by
  have : Op.intBits .and .u32 p.toNat q.toNat = pure (.int .u32 (IntKind.u32.wrap ((BitVec.ofInt 32 (p.toNat : Int) &&& BitVec.ofInt 32 (q.toNat : Int)).toNat : Int))) := rfl
  rw [this, ofInt32, ofInt32, wrap32_lt _ (p &&& q).isLt]; rfl
theorem or32 (p q : Wd) : Op.intBits .or .u32 p.toNat q.toNat = pure (wV (p ||| q)) := by
  have : Op.intBits .or .u32 p.toNat q.toNat = pure (.int .u32 (IntKind.u32.wrap ((BitVec.ofInt 32 (p.toNat : Int) ||| BitVec.ofInt 32 (q.toNat : Int)).toNat : Int))) := rfl
  rw [this, ofInt32, ofInt32, wrap32_lt _ (p ||| q).isLt]; rfl

section
variable {P : Program} {Q : Exit → Act → World → Prop} {K : Act → World → Prop} {a : Act} {w : World} {dst : Option Tmp} {ty T T' : TypeId} {pos : String} {af : Array Edge} {g : Option (Nat × Bool)} {x y : Operand} {p q : Wd}

theorem rx_add32 (hx : a.eval x = wV p) (hy : a.eval y = wV q) (w : World) : (execOp a.eval { dst := dst, op := .binOp .add T x y T', type := ty, pos := pos, after := af, guard := g }).run P w = .ok (.value (wV (p + q))) w := by
  have : IntKind.u32.wrap ((p.toNat : Int) + q.toNat) = ((p + q).toNat : Int) := by
    rw [IntKind.wrap_u32, BitVec.toNat_add]; omega
  simp [execOp, hx, hy, wV, eqGuard, binOp, Op.intArith, this]

theorem arm_add32 (hx : a.eval x = wV p) (hy : a.eval y = wV q) (h : K (a.put dst (wV (p + q))) w) : Oper.wp P { dst := dst, op := .binOp .add T x y T', type := ty, pos := pos, after := af, guard := g } a w K Q := wp_value (rx_add32 hx hy w) h

theorem rx_xor32 (hx : a.eval x = wV p) (hy : a.eval y = wV q) (w : World) : (execOp a.eval { dst := dst, op := .binOp .xor T x y T', type := ty, pos := pos, after := af, guard := g }).run P w = .ok (.value (wV (p ^^^ q))) w := by
  have := xor32 p q
  simp [execOp, hx, hy, wV, eqGuard, binOp] at this ⊢
  simp [this]

theorem arm_xor32 (hx : a.eval x = wV p) (hy : a.eval y = wV q) (h : K (a.put dst (wV (p ^^^ q))) w) : Oper.wp P { dst := dst, op := .binOp .xor T x y T', type := ty, pos := pos, after := af, guard := g } a w K Q := wp_value (rx_xor32 hx hy w) h

theorem rx_and32 (hx : a.eval x = wV p) (hy : a.eval y = wV q) (w : World) : (execOp a.eval { dst := dst, op := .binOp .and T x y T', type := ty, pos := pos, after := af, guard := g }).run P w = .ok (.value (wV (p &&& q))) w := by
  have := and32 p q
  simp [execOp, hx, hy, wV, eqGuard, binOp] at this ⊢
  simp [this]

theorem arm_and32 (hx : a.eval x = wV p) (hy : a.eval y = wV q) (h : K (a.put dst (wV (p &&& q))) w) : Oper.wp P { dst := dst, op := .binOp .and T x y T', type := ty, pos := pos, after := af, guard := g } a w K Q := wp_value (rx_and32 hx hy w) h

theorem rx_or32 (hx : a.eval x = wV p) (hy : a.eval y = wV q) (w : World) : (execOp a.eval { dst := dst, op := .binOp .or T x y T', type := ty, pos := pos, after := af, guard := g }).run P w = .ok (.value (wV (p ||| q))) w := by
  have := or32 p q
  simp [execOp, hx, hy, wV, eqGuard, binOp] at this ⊢
  simp [this]

theorem arm_or32 (hx : a.eval x = wV p) (hy : a.eval y = wV q) (h : K (a.put dst (wV (p ||| q))) w) : Oper.wp P { dst := dst, op := .binOp .or T x y T', type := ty, pos := pos, after := af, guard := g } a w K Q := wp_value (rx_or32 hx hy w) h

theorem rx_shl32 {k : IntKind} {n : Int} {m : Nat} (hx : a.eval x = wV p) (hy : a.eval y = .int k n) (hn : n = (m : Int)) (hm : m ≤ 32) (w : World) : (execOp a.eval { dst := dst, op := .binOp .shl T x y T', type := ty, pos := pos, after := af, guard := g }).run P w = .ok (.value (wV (p <<< m))) w := by
  subst hn
  have h1 : min ((m : Int).toNat) IntKind.u32.bits = m := by simp [IntKind.bits]; omega
  have h2 : IntKind.u32.wrap ((p.toNat : Int) * 2 ^ m) = ((p <<< m).toNat : Int) := by
    rw [IntKind.wrap_u32, BitVec.toNat_shiftLeft, Nat.shiftLeft_eq]
    simp
  simp [execOp, hx, hy, wV, eqGuard, binOp, Op.shift, h1, h2]

theorem arm_shl32 {k : IntKind} {n : Int} {m : Nat} (hx : a.eval x = wV p) (hy : a.eval y = .int k n) (hn : n = (m : Int)) (hm : m ≤ 32) (h : K (a.put dst (wV (p <<< m))) w) : Oper.wp P { dst := dst, op := .binOp .shl T x y T', type := ty, pos := pos, after := af, guard := g } a w K Q := wp_value (rx_shl32 hx hy hn hm w) h

theorem rx_shr32 {k : IntKind} {n : Int} {m : Nat} (hx : a.eval x = wV p) (hy : a.eval y = .int k n) (hn : n = (m : Int)) (hm : m ≤ 32) (w : World) : (execOp a.eval { dst := dst, op := .binOp .shr T x y T', type := ty, pos := pos, after := af, guard := g }).run P w = .ok (.value (wV (p >>> m))) w := by
  subst hn
  have h1 : min ((m : Int).toNat) IntKind.u32.bits = m := by simp [IntKind.bits]; omega
  have h2 : (p.toNat : Int).fdiv (2 ^ m) = ((p >>> m).toNat : Int) := by
    rw [BitVec.toNat_ushiftRight, Nat.shiftRight_eq_div_pow, Int.fdiv_eq_ediv_of_nonneg _ (by exact_mod_cast Nat.zero_le (2 ^ m))]
    simp
  have h3 : (Op.shift .shr .u32 (p.toNat : Int) k (m : Int)) = pure (wV (p >>> m)) := by
    unfold Op.shift
    rw [if_neg (by omega), h1]
    show pure (Value.int IntKind.u32 ((p.toNat : Int).fdiv (2 ^ m))) = _
    rw [h2]
    rfl
  have h4 : binOp .shr T (.int .u32 (p.toNat : Int)) (.int k (m : Int)) = pure (wV (p >>> m)) := by rw [← h3]; rfl
  simp only [execOp, hx, hy, wV, eqGuard] at h4 ⊢
  rw [h4]
  rfl

theorem arm_shr32 {k : IntKind} {n : Int} {m : Nat} (hx : a.eval x = wV p) (hy : a.eval y = .int k n) (hn : n = (m : Int)) (hm : m ≤ 32) (h : K (a.put dst (wV (p >>> m))) w) : Oper.wp P { dst := dst, op := .binOp .shr T x y T', type := ty, pos := pos, after := af, guard := g } a w K Q := wp_value (rx_shr32 hx hy hn hm w) h

theorem rx_convI {T1 T2 : TypeId} {k1 k k0 : IntKind} {n m : Int} [hT1 : IntT P T1 k1] [hT2 : IntT P T2 k] (hx : a.eval x = .int k0 n) (hm : k.wrap n = m) (w : World) : (execOp a.eval { dst := dst, op := .convert T1 T2 x, type := ty, pos := pos, after := af, guard := g }).run P w = .ok (.value (.int k m)) w := by
  subst hm
  have h : (convert T1 T2 (.int k0 n)).run P w = .ok (.int k (k.wrap n)) w := by
    simp only [convert, Sem.run_bind, run_underlying hT1.kind, run_underlying hT2.kind, Result.andThen_ok]
    rfl
  simp only [execOp, hx, Sem.run_bind, h]
  rfl

theorem rx_conv8to32 {c : UInt8} {T1 T2 : TypeId} {k1 : IntKind} [IntT P T1 k1] [IntT P T2 .u32] (hx : a.eval x = byteV c) (w : World) : (execOp a.eval { dst := dst, op := .convert T1 T2 x, type := ty, pos := pos, after := af, guard := g }).run P w = .ok (.value (wV (BitVec.ofNat 32 c.toNat))) w :=
  rx_convI hx (by
    have := c.toNat_lt
    rw [IntKind.wrap_u32, BitVec.toNat_ofNat]; omega) w

theorem rx_convtou8 {n : Nat} {k0 : IntKind} {T1 T2 : TypeId} {k1 : IntKind} [IntT P T1 k1] [IntT P T2 .u8] (hx : a.eval x = .int k0 (n : Int)) (w : World) : (execOp a.eval { dst := dst, op := .convert T1 T2 x, type := ty, pos := pos, after := af, guard := g }).run P w = .ok (.value (byteV (UInt8.ofNat n))) w :=
  rx_convI hx (by rw [IntKind.wrap_u8]; simp [byteV]) w

theorem arm_conv8to32 {c : UInt8} {T1 T2 : TypeId} {k1 : IntKind} [IntT P T1 k1] [IntT P T2 .u32] (hx : a.eval x = byteV c) (h : K (a.put dst (wV (BitVec.ofNat 32 c.toNat))) w) : Oper.wp P { dst := dst, op := .convert T1 T2 x, type := ty, pos := pos, after := af, guard := g } a w K Q := wp_value (rx_conv8to32 hx w) h
theorem arm_convtou8 {n : Nat} {k0 : IntKind} {T1 T2 : TypeId} {k1 : IntKind} [IntT P T1 k1] [IntT P T2 .u8] (hx : a.eval x = .int k0 (n : Int)) (h : K (a.put dst (byteV (UInt8.ofNat n))) w) : Oper.wp P { dst := dst, op := .convert T1 T2 x, type := ty, pos := pos, after := af, guard := g } a w K Q := wp_value (rx_convtou8 hx w) h
theorem arm_convI {T1 T2 : TypeId} {k1 k k0 : IntKind} {n m : Int} [IntT P T1 k1] [IntT P T2 k] (hx : a.eval x = .int k0 n) (hm : k.wrap n = m) (h : K (a.put dst (.int k m)) w) : Oper.wp P { dst := dst, op := .convert T1 T2 x, type := ty, pos := pos, after := af, guard := g } a w K Q := wp_value (rx_convI hx hm w) h

theorem arm_shr64 {k : IntKind} {n : Int} {u m : Nat} (hx : a.eval x = .int .u64 (u : Int)) (hy : a.eval y = .int k n) (hn : n = (m : Int)) (hm : m ≤ 64) (h : K (a.put dst (.int .u64 ((u / 2 ^ m : Nat) : Int))) w) : Oper.wp P { dst := dst, op := .binOp .shr T x y T', type := ty, pos := pos, after := af, guard := g } a w K Q := by
  subst hn
  refine wp_value (w' := w) ?_ h
  have h1 : min ((m : Int).toNat) IntKind.u64.bits = m := by simp [IntKind.bits]; omega
  have h2 : (u : Int).fdiv (2 ^ m) = ((u / 2 ^ m : Nat) : Int) := by
    rw [Int.fdiv_eq_ediv_of_nonneg _ (by exact_mod_cast Nat.zero_le (2 ^ m))]
    simp
  have h3 : (Op.shift .shr .u64 (u : Int) k (m : Int)) = pure (Value.int .u64 ((u / 2 ^ m : Nat) : Int)) := by
    unfold Op.shift
    rw [if_neg (by omega), h1]
    show pure (Value.int IntKind.u64 ((u : Int).fdiv (2 ^ m))) = _
    rw [h2]
  have h4 : binOp .shr T (.int .u64 (u : Int)) (.int k (m : Int)) = pure (Value.int .u64 ((u / 2 ^ m : Nat) : Int)) := by rw [← h3]; rfl
  simp only [execOp, hx, hy, eqGuard]
  rw [h4]
  rfl

theorem arm_conv32to64 {p : Wd} {T1 T2 : TypeId} {k1 : IntKind} [IntT P T1 k1] [IntT P T2 .u64] (hx : a.eval x = wV p) (h : K (a.put dst (.int .u64 (p.toNat : Int))) w) : Oper.wp P { dst := dst, op := .convert T1 T2 x, type := ty, pos := pos, after := af, guard := g } a w K Q :=
  arm_convI hx (by have := p.isLt; rw [IntKind.wrap_u64]; omega) h

theorem or128 (c : UInt8) : Op.intBits .or .u8 c.toNat 128 = pure (byteV (c ||| 128)) := by
  have : ∀ n : Nat, n < 256 → bits .or .u8 (n : Int) 128 = (((UInt8.ofNat n) ||| 128).toNat : Int) := by decide +kernel
  have h2 : Op.intBits .or .u8 c.toNat 128 = pure (.int .u8 (bits .or .u8 (c.toNat : Int) 128)) := rfl
  rw [h2, this _ c.toNat_lt]
  simp [byteV]
theorem arm_or128 {c : UInt8} (hx : a.eval x = byteV c) (hy : a.eval y = .int .u8 128) (h : K (a.put dst (byteV (c ||| 128))) w) : Oper.wp P { dst := dst, op := .binOp .or T x y T', type := ty, pos := pos, after := af, guard := g } a w K Q := by
  refine wp_value (w' := w) ?_ h
  have := or128 c
  simp [execOp, hx, hy, byteV, eqGuard, binOp] at this ⊢
  simp [this]

/-- a comparison of integers whose answer is known -/
def cmpB : BinOp → Int → Int → Bool
  | .lss, p, q => decide (p < q)
  | .leq, p, q => decide (p ≤ q)
  | .gtr, p, q => decide (q < p)
  | .geq, p, q => decide (q ≤ p)
  | .eql, p, q => p == q
  | _, p, q => p != q
theorem cmp_run (op : BinOp) (h : op = .lss ∨ op = .leq ∨ op = .gtr ∨ op = .geq ∨ op = .eql ∨ op = .neq) (T : TypeId) (k : IntKind) (p q : Int) : binOp op T (.int k p) (.int k q) = pure (.bool (cmpB op p q)) := by
  rcases h with rfl | rfl | rfl | rfl | rfl | rfl <;> simp [binOp, Op.intCmp, cmpB] <;> rfl
theorem arm_cmpB {op : BinOp} {k : IntKind} {p q : Int} {B : Bool} (hop : (op = .lss ∨ op = .leq ∨ op = .gtr ∨ op = .geq ∨ op = .eql ∨ op = .neq)) (hx : a.eval x = .int k p) (hy : a.eval y = .int k q) (hB : cmpB op p q = B) (h : K (a.put dst (.bool B)) w) :
    Oper.wp P { dst := dst, op := .binOp op T x y T', type := ty, pos := pos, after := af, guard := g } a w K Q := by
  subst hB
  refine wp_value (w' := w) ?_ h
  have h2 := cmp_run op hop T k p q
  have h3 : (eqGuard op T x y (.int k p) (.int k q)).run P w = .ok () w := by
    rcases hop with rfl | rfl | rfl | rfl | rfl | rfl <;> rfl
  simp only [execOp, hx, hy, Sem.run_bind, h3, Result.andThen_ok, h2]
  rfl

end
end Go.Proofs.YtelnilllleempaaDoor
