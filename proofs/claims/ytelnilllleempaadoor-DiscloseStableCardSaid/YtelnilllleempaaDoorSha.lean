/- The hash function in plain Lean, over words of 32 bits. -/
import Derived.Test.YtelnilllleempaaDoorBits
namespace Go.Proofs.YtelnilllleempaaDoor
set_option linter.all false

/-- the last k bytes of a number, the greatest first -/
def be (n : Nat) : Nat → List UInt8
  | 0 => []
  | k + 1 => UInt8.ofNat (n / 2 ^ (8 * k)) :: be n k
@[simp] theorem be_length (n : Nat) : ∀ k, (be n k).length = k
  | 0 => rfl
  | k + 1 => by simp [be, be_length n k]

/-- turned right -/
def ror (v : Wd) (n : Nat) : Wd := v <<< (32 - n) ||| v >>> n
def rot3 (v : Wd) (a b c : Nat) : Wd := ror v a ^^^ ror v b ^^^ ror v c

/-- bytes to a word, as the code reads them -/
def wordF : Wd → List UInt8 → Wd
  | n, [] => n
  | n, c :: l => wordF (n <<< 8 ||| BitVec.ofNat 32 c.toNat) l
def word (l : List UInt8) : Wd := wordF 0 (l.take 4)

theorem set_splice {cs vs : List Value} {p : Nat} {v : Value} (h : p + 1 + vs.length ≤ cs.length) : (splice cs (p + 1) vs).set p v = splice cs p (v :: vs) := by
  rw [← splice_cons cs p v vs (by simp; omega)]
  unfold splice
  rw [List.set_append_left _ _ (by simp; omega), List.set_append_left _ _ (by simp; omega), List.drop_set_of_lt (by omega), List.take_set]

def kTab : List Wd := [1116352408, 1899447441, 3049323471, 3921009573, 961987163, 1508970993, 2453635748, 2870763221, 3624381080, 310598401, 607225278, 1426881987, 1925078388, 2162078206, 2614888103, 3248222580, 3835390401, 4022224774, 264347078, 604807628, 770255983, 1249150122, 1555081692, 1996064986, 2554220882, 2821834349, 2952996808, 3210313671, 3336571891, 3584528711, 113926993, 338241895, 666307205, 773529912, 1294757372, 1396182291, 1695183700, 1986661051, 2177026350, 2456956037, 2730485921, 2820302411, 3259730800, 3345764771, 3516065817, 3600352804, 4094571909, 275423344, 430227734, 506948616, 659060556, 883997877, 958139571, 1322822218, 1537002063, 1747873779, 1955562222, 2024104815, 2227730452, 2361852424, 2428436474, 2756734187, 3204031479, 3329325298]

structure St where
  a : Wd
  b : Wd
  c : Wd
  d : Wd
  e : Wd
  f : Wd
  g : Wd
  h : Wd

def St.l (s : St) : List Wd := [s.a, s.b, s.c, s.d, s.e, s.f, s.g, s.h]
def St.of (l : List Wd) : St := ⟨l.getD 0 0, l.getD 1 0, l.getD 2 0, l.getD 3 0, l.getD 4 0, l.getD 5 0, l.getD 6 0, l.getD 7 0⟩
def wsV (l : List Wd) : List Value := l.map wV
def stV (s : St) : List Value := wsV s.l
@[simp] theorem wsV_length (l : List Wd) : (wsV l).length = l.length := by simp [wsV]
@[simp] theorem stV_length (s : St) : (stV s).length = 8 := rfl
@[simp] theorem St.l_length (s : St) : s.l.length = 8 := rfl

def st0 : St := ⟨1779033703, 3144134277, 1013904242, 2773480762, 1359893119, 2600822924, 528734635, 1541459225⟩

def nextW (x16 x15 x7 x2 : Wd) : Wd := x16 + (ror x15 7 ^^^ ror x15 18 ^^^ x15 >>> 3) + x7 + (ror x2 17 ^^^ ror x2 19 ^^^ x2 >>> 10)
def sch (l : List UInt8) : Nat → List Wd
  | 0 => []
  | t + 1 => sch l t ++ [if t < 16 then word (l.drop (4 * t)) else nextW ((sch l t).getD (t - 16) 0) ((sch l t).getD (t - 15) 0) ((sch l t).getD (t - 7) 0) ((sch l t).getD (t - 2) 0)]
@[simp] theorem sch_length (l : List UInt8) : ∀ t, (sch l t).length = t
  | 0 => rfl
  | t + 1 => by simp [sch, sch_length l t]
def schF (l : List UInt8) (t : Nat) : Wd := (sch l (t + 1)).getD t 0
theorem sch_getD (l : List UInt8) : ∀ n j, j < n → (sch l n).getD j 0 = schF l j
  | 0, _, h => by omega
  | n + 1, j, h => by
    rcases Nat.lt_or_ge j n with h' | h'
    · rw [← sch_getD l n j h']
      simp [sch, List.getElem?_append_left (show j < (sch l n).length by simpa using h')]
    · have : j = n := by omega
      subst this; rfl
theorem schF_lt (l : List UInt8) (t : Nat) (h : t < 16) : schF l t = word (l.drop (4 * t)) := by
  simp [schF, sch, h]
theorem schF_ge (l : List UInt8) (t : Nat) (h : 16 ≤ t) : schF l t = nextW (schF l (t - 16)) (schF l (t - 15)) (schF l (t - 7)) (schF l (t - 2)) := by
  have : schF l t = nextW ((sch l t).getD (t - 16) 0) ((sch l t).getD (t - 15) 0) ((sch l t).getD (t - 7) 0) ((sch l t).getD (t - 2) 0) := by
    simp [schF, sch, show ¬ t < 16 by omega]
  rw [this, sch_getD l t _ (by omega), sch_getD l t _ (by omega), sch_getD l t _ (by omega), sch_getD l t _ (by omega)]

/-- one step -/
def p1 (s : St) (k w : Wd) : Wd := s.h + rot3 s.e 6 11 25 + (s.g ^^^ s.e &&& (s.f ^^^ s.g)) + k + w
def p2 (s : St) : Wd := rot3 s.a 2 13 22 + (s.a &&& s.b ||| s.c &&& (s.a ||| s.b))
def step (s : St) (k w : Wd) : St := ⟨p1 s k w + p2 s, s.a, s.b, s.c, s.d + p1 s k w, s.e, s.f, s.g⟩
def rounds (l : List UInt8) (s : St) : Nat → St
  | 0 => s
  | t + 1 => step (rounds l s t) (kTab.getD t 0) (schF l t)
def blockL (l : List UInt8) (s : St) : List Wd := List.zipWith (· + ·) s.l (rounds l s 64).l
def block (l : List UInt8) (s : St) : St := ⟨s.a + (rounds l s 64).a, s.b + (rounds l s 64).b, s.c + (rounds l s 64).c, s.d + (rounds l s 64).d, s.e + (rounds l s 64).e, s.f + (rounds l s 64).f, s.g + (rounds l s 64).g, s.h + (rounds l s 64).h⟩
theorem block_l (l : List UInt8) (s : St) : (block l s).l = blockL l s := rfl

/-- 64 bytes at a time -/
def blocks : Nat → List UInt8 → St → St
  | 0, _, s => s
  | n + 1, l, s => block ((l.drop (64 * n)).take 64) (blocks n l s)
def outB : List Wd → List UInt8
  | [] => []
  | x :: l => be x.toNat 4 ++ outB l
theorem outB_length : ∀ l : List Wd, (outB l).length = 4 * l.length
  | [] => rfl
  | x :: l => by simp [outB, outB_length l]; omega
/-- what is behind the last whole block: 64 or 128 bytes -/
def tailB (rest : List UInt8) (n : Nat) : List UInt8 := rest ++ [128] ++ List.replicate (if rest.length > 55 then 119 - rest.length else 55 - rest.length) 0 ++ be (n * 8) 8
def shaSt (b : List UInt8) : St :=
  let rest := b.drop (64 * (b.length / 64))
  blocks (if rest.length > 55 then 2 else 1) (tailB rest b.length) (blocks (b.length / 64) b st0)
def sha (b : List UInt8) : Dig := ⟨outB (shaSt b).l, by rw [outB_length]; rfl⟩

/-- the globals -/
structure Glo (w : World) : Prop where
  start : w.rangeAt 0 0 (stV st0)
  numbers : w.rangeAt 1 0 (wsV kTab)
theorem Glo.size {w : World} (h : Glo w) : 2 ≤ w.heap.size := World.block_lt_of_cell? w ⟨1, 0, none⟩ (h.numbers 0 (wV 1116352408) rfl)
theorem Mem.glo {w0 w : World} {hs : List Ent} (hM : Mem w0 [] hs w) (h : Glo w0) : Glo w := ⟨hM.old h.start, hM.old h.numbers⟩

theorem set_known {cs : List Value} {f : Nat → Value} {k : Nat} {v : Value} (hcs : ∀ j, j < k → cs[j]? = some (f j)) (hk : k < cs.length) (hv : v = f k) : ∀ j, j < k + 1 → (cs.set k v)[j]? = some (f j) := fun j hj => by
  rcases Nat.lt_or_ge j k with h | h
  · rw [List.getElem?_set_ne (by omega)]; exact hcs j h
  · have : j = k := by omega
    subst this
    rw [List.getElem?_set_self hk, hv]

theorem stV_get (s : St) (k : Nat) (h : k < 8) : (stV s)[k]? = some (wV (s.l.getD k 0)) := by
  have : k < s.l.length := h
  simp [stV, wsV, List.getElem?_eq_getElem this]
theorem blockL_getD (l : List UInt8) (s : St) (k : Nat) (h : k < 8) : (blockL l s).getD k 0 = s.l.getD k 0 + (rounds l s 64).l.getD k 0 := by
  have h1 : k < s.l.length := h
  have h2 : k < (rounds l s 64).l.length := h
  simp [blockL, List.getElem?_zipWith, List.getElem?_eq_getElem h1, List.getElem?_eq_getElem h2]
theorem stV_of {cs : List Value} {s : St} (hl : cs.length = 8) (h : ∀ j, j < 8 → cs[j]? = some (wV (s.l.getD j 0))) : cs = stV s := by
  apply List.ext_getElem?
  intro j
  rcases Nat.lt_or_ge j 8 with hj | hj
  · rw [h j hj, stV_get s j hj]
  · rw [List.getElem?_eq_none (by omega), List.getElem?_eq_none (by simpa using hj)]
theorem set_after {cs : List Value} {k j : Nat} {v u : Value} (h : cs[j]? = some u) (hj : k + 1 ≤ j) : (cs.set k v)[j]? = some u := by
  rw [List.getElem?_set_ne (by omega)]; exact h
theorem kTab_get (k : Nat) (h : k < 64) : (wsV kTab)[k]? = some (wV (kTab.getD k 0)) := by
  have : k < kTab.length := h
  simp [wsV, List.getElem?_eq_getElem this]

theorem wsV_one (l : List Wd) : ∀ u ∈ wsV l, u.oneCell' = true := fun u hu => by
  obtain ⟨x, _, rfl⟩ := List.mem_map.1 hu; rfl
theorem stV_one (s : St) : ∀ u ∈ stV s, u.oneCell' = true := wsV_one _

theorem tailB_length (R : List UInt8) (n : Nat) (h : R.length < 64) : (tailB R n).length = if R.length > 55 then 128 else 64 := by
  simp only [tailB, List.length_append, List.length_replicate, be_length, List.length_singleton]
  split <;> omega
theorem byteV_zero : (Value.int .u8 0) = byteV 0 := rfl
theorem byteV_128 : (Value.int .u8 128) = byteV 128 := rfl
theorem bytesV_replicate (n : Nat) (b : UInt8) : bytesV (List.replicate n b) = List.replicate n (byteV b) := by simp [bytesV]
theorem bytesV_cons (b : UInt8) (l : List UInt8) : bytesV (b :: l) = byteV b :: bytesV l := rfl
theorem splice_bytes (l m : List UInt8) (o : Nat) : splice (bytesV l) o (bytesV m) = bytesV (l.take o ++ m ++ l.drop (o + m.length)) := by
  simp [splice, bytesV, List.map_take, List.map_drop]
theorem set_bytes (l : List UInt8) (o : Nat) (b : UInt8) : (bytesV l).set o (byteV b) = bytesV (l.set o b) := by
  simp [bytesV, List.map_set]
/-- the end is laid out -/
theorem tail_laid (R : List UInt8) (n : Nat) (h : R.length < 64) (m : Nat) (hm : m = if R.length > 55 then 128 else 64) :
    splice ((splice (List.replicate 128 (.int .u8 0)) 0 (bytesV R)).set R.length (.int .u8 128)) (m - 8) (bytesV (be (n * 8) 8)) = bytesV (tailB R n ++ List.replicate (128 - m) 0) := by
  rw [byteV_zero, byteV_128, ← bytesV_replicate, splice_bytes, set_bytes, splice_bytes]
  congr 1
  have e1 : (List.replicate 128 (0 : UInt8)).take 0 ++ R ++ (List.replicate 128 0).drop (0 + R.length) = R ++ (0 :: List.replicate (127 - R.length) 0) := by
    simp only [List.take_zero, List.nil_append, List.drop_replicate, Nat.zero_add]
    rw [show 128 - R.length = (127 - R.length) + 1 by omega, List.replicate_succ]
  rw [e1, List.set_append_right _ _ (Nat.le_refl _), Nat.sub_self, List.set_cons_zero]
  have e2 : m - 8 = R.length + (1 + (m - 9 - R.length)) := by split at hm <;> omega
  have e3 : List.replicate (127 - R.length) (0 : UInt8) = List.replicate (m - 9 - R.length) 0 ++ (List.replicate 8 0 ++ List.replicate (128 - m) 0) := by
    rw [List.replicate_append_replicate, List.replicate_append_replicate]; congr 1; split at hm <;> omega
  have e4 : (if R.length > 55 then 119 - R.length else 55 - R.length) = m - 9 - R.length := by split at hm <;> split <;> omega
  have e5 : R ++ 128 :: List.replicate (127 - R.length) 0 = (R ++ [128] ++ List.replicate (m - 9 - R.length) 0) ++ (List.replicate 8 0 ++ List.replicate (128 - m) 0) := by rw [e3]; simp
  have e6 : m - 8 = (R ++ [128] ++ List.replicate (m - 9 - R.length) (0 : UInt8)).length := by simp; omega
  rw [e5, e6, List.take_left, be_length]
  rw [← List.drop_drop, List.drop_left, List.drop_left' (by simp)]
  simp only [tailB, e4, List.append_assoc]

theorem outB_append : ∀ a b : List Wd, outB (a ++ b) = outB a ++ outB b
  | [], _ => rfl
  | x :: a, b => by simp [outB, outB_append a b]
theorem out_step (S : St) (k : Nat) (h : k < 8) : splice (bytesV (outB (S.l.take k) ++ List.replicate (32 - 4 * k) 0)) (4 * k) (bytesV (be (S.l.getD k 0).toNat 4)) = bytesV (outB (S.l.take (k + 1)) ++ List.replicate (32 - 4 * (k + 1)) 0) := by
  have hk : k < S.l.length := h
  rw [splice_bytes]
  congr 1
  have e1 : 4 * k = (outB (S.l.take k)).length := by rw [outB_length, List.length_take]; omega
  have e2 : List.replicate (32 - 4 * k) (0 : UInt8) = List.replicate 4 0 ++ List.replicate (32 - 4 * (k + 1)) 0 := by
    rw [List.replicate_append_replicate]; congr 1; omega
  rw [List.take_succ_eq_append_getElem hk, outB_append]
  have e3 : outB [S.l[k]] = be (S.l.getD k 0).toNat 4 := by simp [outB, List.getD_eq_getElem?_getD, List.getElem?_eq_getElem hk]
  rw [e3, e2, be_length]
  generalize be (S.l.getD k 0).toNat 4 = B
  generalize outB (S.l.take k) = O at *
  rw [e1, List.take_left, ← List.drop_drop, List.drop_left, List.drop_left' (by simp)]


end Go.Proofs.YtelnilllleempaaDoor
