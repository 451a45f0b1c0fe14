/- What an argument reads as tells how its cells lie. -/
import Derived.Test.YtelnilllleempaaDoorEq
import Derived.ProofKit
import Derived.OpenShut
namespace Go.Proofs.YtelnilllleempaaDoor
set_option linter.all false
open Go Go.RowKit

section
variable {H : Type} {enc : TypeId × Value → H} {P : Program} {w : World} {base : Nat} {spare : Nat → Bool} {held : Bool}

theorem choose_list {α : Type} {Q : Nat → α → Prop} : ∀ n : Nat, (∀ i, i < n → ∃ x, Q i x) → ∃ l : List α, l.length = n ∧ ∀ i x, l[i]? = some x → Q i x
  | 0, _ => ⟨[], rfl, fun i x h => by simp at h⟩
  | n + 1, h => by
    obtain ⟨l, hl, hq⟩ := choose_list n (fun i hi => h i (by omega))
    obtain ⟨x, hx⟩ := h n (by omega)
    refine ⟨l ++ [x], by simp [hl], fun i y hy => ?_⟩
    rcases Nat.lt_or_ge i l.length with hi | hi
    · rw [List.getElem?_append_left hi] at hy; exact hq i y hy
    · rw [List.getElem?_append_right hi] at hy
      have : i = n := by
        rcases Nat.eq_zero_or_pos (i - l.length) with h0 | h0
        · omega
        · rw [List.getElem?_eq_none (by simp; omega)] at hy; cases hy
      subst this
      rw [hl, Nat.sub_self] at hy
      simp at hy; subst hy; exact hx

theorem flatMap_get {α : Type} (f : α → List Value) (k : Nat) (hf : ∀ x, (f x).length = k) (l : List α) (i r : Nat) (x : α) (hx : l[i]? = some x) (hr : r < k) : (l.flatMap f)[i * k + r]? = (f x)[r]? := by
  have hi : i < l.length := (List.getElem?_eq_some_iff.1 hx).1
  have h1 := flatMap_drop f k hf l i
  rw [← List.getElem?_drop, h1, List.drop_eq_getElem_cons hi, List.flatMap_cons]
  have : l[i] = x := (List.getElem?_eq_some_iff.1 hx).2
  rw [this, List.getElem?_append_left (by rw [hf]; exact hr)]

/-- a slice of elements that have a shape -/
theorem open_sl {α : Type} {t e : TypeId} (f : α → List Value) (k : Nat) (hf : ∀ x, (f x).length = k) (hk : 0 < k) (ht : P.underlying t = some (.slice e)) (hc : P.cellsOf e = k)
    (hs : ∀ (fuel : Nat) (cs : List Value) x, DataW.trod enc P w base spare held fuel e cs = some x → ∃ y : α, cs = f y)
    {fuel : Nat} {cs : List Value} {x : DataW H × List MemPlace} (h : DataW.trod enc P w base spare held fuel t cs = some x) :
    ∃ (A : Option Addr) (n c : Nat) (l : List α), cs = [.slice A n c] ∧ Sl w A n c k (l.flatMap f) := by
  rcases DataW.trod_slice ht h with ⟨rfl, _⟩ | ⟨a, len, cap, elems, rest, m, _, rfl, _, hb, hle, hcap, hel, hall, _⟩
  · exact ⟨none, 0, 0, [], rfl, by simpa using Sl.nil w⟩
  · obtain ⟨l, hl, hq⟩ := choose_list (Q := fun i (y : α) => w.cells? base (a.add (i * k)) k = some (f y)) len (fun i hi => by
      have h1 := hall i hi
      rw [List.getElem?_eq_getElem (by omega), hc] at h1
      obtain ⟨cs', h2, h3⟩ := Option.bind_eq_some_iff.1 h1
      obtain ⟨y, rfl⟩ := hs _ _ _ h3
      exact ⟨y, h2⟩)
    refine ⟨some a, len, cap, l, rfl, by rw [flatMap_len f k hf, hl], hle, hcap, fun hn => ?_⟩
    have hspot : a.spot = none := by
      have h0 : 0 < l.length := by omega
      have := (World.cells?_some (hq 0 l[0] (List.getElem?_eq_getElem h0))).2.2 0 hk
      rw [List.getElem?_eq_getElem (by rw [hf]; exact hk)] at this
      simp only [Nat.zero_mul, Addr.add, if_true] at this
      cases hsp : a.spot with
      | none => rfl
      | some s =>
        unfold World.cell? at this
        simp only [hsp] at this
        split at this <;> simp at this
    obtain ⟨b, o, sp⟩ := a
    simp only at hspot
    subst hspot
    have hcell : ∀ (i r : Nat) (y : α), l[i]? = some y → r < k → w.cell? ⟨b, o + (i * k + r), none⟩ = (f y)[r]? := fun i r y hy hr => by
      have := (World.cells?_some (hq i y hy)).2.2 r hr
      rw [Addr.add_mid, Addr.add_mid] at this
      rw [← this, Nat.add_assoc]
    refine ⟨b, o, rfl, fun j v hv => ?_⟩
    have hj : j < l.length * k := by
      have := (List.getElem?_eq_some_iff.1 hv).1
      rwa [flatMap_len f k hf] at this
    have hik : j / k < l.length := Nat.div_lt_of_lt_mul (by rw [Nat.mul_comm]; exact hj)
    have hjr : j = j / k * k + j % k := by rw [Nat.mul_comm]; exact (Nat.div_add_mod j k).symm
    have hr : j % k < k := Nat.mod_lt _ hk
    have e1 := hcell (j / k) (j % k) l[j / k] (List.getElem?_eq_getElem hik) hr
    rw [← hjr] at e1
    have e2 := flatMap_get f k hf l (j / k) (j % k) l[j / k] (List.getElem?_eq_getElem hik) hr
    rw [← hjr, hv] at e2
    rw [← e2] at e1
    exact e1

def unByte : Value → UInt8
  | .int _ n => UInt8.ofNat n.toNat
  | _ => 0
theorem bytes_shape : ∀ (cs : List Value), (∀ v ∈ cs, ∃ n : Int, v = .int .u8 n ∧ 0 ≤ n ∧ n < 256) → cs = bytesV (cs.map unByte)
  | [], _ => rfl
  | v :: cs, h => by
    obtain ⟨n, rfl, h1, h2⟩ := h v (by simp)
    rw [List.map_cons, bytesV, List.map_cons]
    congr 1
    · simp only [byteV, unByte]
      congr 1
      simp
      omega
    · exact bytes_shape cs (fun u hu => h u (by simp [hu]))

/-- an array of bytes -/
theorem open_bytes {t e n : TypeId} (ht : P.underlying t = some (.array n e)) (he : P.underlying e = some (.int .u8)) (hc : P.cellsOf e = 1) (hct : P.cellsOf t = n)
    {fuel : Nat} {cs : List Value} {x : DataW H × List MemPlace} (h : DataW.trod enc P w base spare held fuel t cs = some x) : ∃ l : List UInt8, l.length = n ∧ cs = bytesV l := by
  obtain ⟨xs, m, _, _, hl, hxl, hall⟩ := DataW.trod_array ht h
  refine ⟨cs.map unByte, by rw [List.length_map, hl, hct], bytes_shape cs fun v hv => ?_⟩
  obtain ⟨i, hi, rfl⟩ := List.mem_iff_getElem.1 hv
  have h1 := hall i (by omega)
  rw [List.getElem?_eq_getElem (by omega), hc, Nat.mul_one] at h1
  obtain ⟨k, h2, _, h3⟩ := DataW.trod_int he h1
  rw [List.drop_eq_getElem_cons hi, List.take_succ_cons, List.take_zero] at h2
  simp only [List.cons.injEq, and_true] at h2
  refine ⟨k, h2, ?_⟩
  simp [Lit.wf, IntKind.min, IntKind.max, IntKind.signed, IntKind.bits] at h3
  omega
end

theorem under_int : (Tryd.prog).underlying 3 = some (.int .i64) := by kernel_rfl
theorem under_bool : (Tryd.prog).underlying 4 = some .bool := by kernel_rfl
theorem under_u8 : (Tryd.prog).underlying 5 = some (.int .u8) := by kernel_rfl
theorem under_dig : (Tryd.prog).underlying 25 = some (.array 32 5) := by kernel_rfl
theorem under_digs : (Tryd.prog).underlying 64 = some (.slice 25) := by kernel_rfl
theorem under_lines : (Tryd.prog).underlying 22 = some (.slice 63) := by kernel_rfl
theorem under_claims : (Tryd.prog).underlying 23 = some (.slice 71) := by kernel_rfl
theorem under_nodes : (Tryd.prog).underlying 32 = some (.slice 39) := by kernel_rfl

section
variable {H : Type} {enc : TypeId × Value → H} {w : World} {base : Nat} {spare : Nat → Bool} {held : Bool} {fuel : Nat} {cs : List Value} {x : DataW H × List MemPlace}
theorem open_dig (h : DataW.trod enc Tryd.prog w base spare held fuel 25 cs = some x) : ∃ d : Dig, cs = dcells d := by
  obtain ⟨l, hl, rfl⟩ := open_bytes under_dig under_u8 (by kernel_rfl) (by kernel_rfl) h
  exact ⟨⟨l, hl⟩, rfl⟩

/-- the fields of a struct, as they read -/
theorem open_fields {P : Program} {T : TypeId} {k : Nat} (fs : List (TypeId × Nat × Nat)) (hu : P.underlying T = some (.struct (P.fieldsOf T))) (hc : P.cellsOf T = k)
    (hf : (P.fieldsOf T).toList.map (fun f => (f.type, f.offset, P.cellsOf f.type)) = fs) (h : DataW.trod enc P w base spare held fuel T cs = some x) :
    cs.length = k ∧ ∀ (i : Nat) (t : TypeId × Nat × Nat), fs[i]? = some t → ∃ m y, DataW.trod enc P w base spare held m t.1 ((cs.drop t.2.1).take t.2.2) = some y := by
  obtain ⟨xs, n, _, _, hl, hxl, hall⟩ := DataW.trod_struct hu h
  refine ⟨by rw [hl, hc], fun i t hi => ?_⟩
  rw [← hf, List.getElem?_map] at hi
  cases hg : (P.fieldsOf T).toList[i]? with
  | none => simp [hg] at hi
  | some f =>
    simp only [hg, Option.map_some, Option.some.injEq] at hi
    subst hi
    have hlt : i < (P.fieldsOf T).size := by have := (List.getElem?_eq_some_iff.1 hg).1; simpa using this
    have := hall i f (by rw [← Array.getElem?_toList]; exact hg)
    rw [List.getElem?_eq_getElem (by omega)] at this
    exact ⟨n, _, this⟩
theorem one_int {P : Program} {t : TypeId} (hu : P.underlying t = some (.int .i64)) {i : Nat} (h : ∃ m y, DataW.trod enc P w base spare held m t ((cs.drop i).take 1) = some y) : ∃ n : Int, cs[i]? = some (.int .i64 n) := by
  obtain ⟨m, y, h⟩ := h
  obtain ⟨n, h1, _⟩ := DataW.trod_int hu h
  refine ⟨n, ?_⟩
  have : ((cs.drop i).take 1)[0]? = some (.int .i64 n) := by rw [h1]; rfl
  simpa using this
theorem one_bool {P : Program} {t : TypeId} (hu : P.underlying t = some .bool) {i : Nat} (h : ∃ m y, DataW.trod enc P w base spare held m t ((cs.drop i).take 1) = some y) : ∃ b : Bool, cs[i]? = some (.bool b) := by
  obtain ⟨m, y, h⟩ := h
  obtain ⟨b, h1, _⟩ := DataW.trod_bool hu h
  refine ⟨b, ?_⟩
  have : ((cs.drop i).take 1)[0]? = some (.bool b) := by rw [h1]; rfl
  simpa using this

theorem open_line (h : DataW.trod enc Tryd.prog w base spare held fuel 63 cs = some x) : ∃ y : Line, cs = lcells y := by
  obtain ⟨hl, hf⟩ := open_fields (P := Tryd.prog) (T := 63) (k := 5) [(3, 0, 1), (3, 1, 1), (3, 2, 1), (3, 3, 1), (3, 4, 1)] (by kernel_rfl) (by kernel_rfl) (by kernel_rfl) h
  obtain ⟨a, h0⟩ := one_int under_int (hf 0 _ rfl)
  obtain ⟨b, h1⟩ := one_int under_int (hf 1 _ rfl)
  obtain ⟨c, h2⟩ := one_int under_int (hf 2 _ rfl)
  obtain ⟨d, h3⟩ := one_int under_int (hf 3 _ rfl)
  obtain ⟨e, h4⟩ := one_int under_int (hf 4 _ rfl)
  match cs, hl with
  | [v0, v1, v2, v3, v4], _ =>
    simp at h0 h1 h2 h3 h4
    subst h0; subst h1; subst h2; subst h3; subst h4
    exact ⟨⟨a, b, c, d, e⟩, rfl⟩
theorem open_claim (h : DataW.trod enc Tryd.prog w base spare held fuel 71 cs = some x) : ∃ y : Claim, cs = ccells y := by
  obtain ⟨hl, hf⟩ := open_fields (P := Tryd.prog) (T := 71) (k := 3) [(3, 0, 1), (3, 1, 1), (4, 2, 1)] (by kernel_rfl) (by kernel_rfl) (by kernel_rfl) h
  obtain ⟨a, h0⟩ := one_int under_int (hf 0 _ rfl)
  obtain ⟨b, h1⟩ := one_int under_int (hf 1 _ rfl)
  obtain ⟨c, h2⟩ := one_bool under_bool (hf 2 _ rfl)
  match cs, hl with
  | [v0, v1, v2], _ =>
    simp at h0 h1 h2
    subst h0; subst h1; subst h2
    exact ⟨⟨a, b, c⟩, rfl⟩

theorem open_trn (h : DataW.trod enc Tryd.prog w base spare held fuel 27 cs = some x) : ∃ (t : Trn) (L : List Line) (C : List Claim), cs = tcells t ∧ SlL w t.A t.n t.c L ∧ SlC w t.B t.m t.d C := by
  obtain ⟨hl, hf⟩ := open_fields (P := Tryd.prog) (T := 27) (k := 38) [(3, 0, 1), (3, 1, 1), (3, 2, 1), (3, 3, 1), (22, 4, 1), (23, 5, 1), (25, 6, 32)] (by kernel_rfl) (by kernel_rfl) (by kernel_rfl) h
  obtain ⟨a, h0⟩ := one_int under_int (hf 0 _ rfl)
  obtain ⟨b, h1⟩ := one_int under_int (hf 1 _ rfl)
  obtain ⟨c, h2⟩ := one_int under_int (hf 2 _ rfl)
  obtain ⟨d, h3⟩ := one_int under_int (hf 3 _ rfl)
  obtain ⟨m4, y4, h4⟩ := hf 4 _ rfl
  obtain ⟨m5, y5, h5⟩ := hf 5 _ rfl
  obtain ⟨m6, y6, h6⟩ := hf 6 _ rfl
  obtain ⟨A, n, cap, L, e4, hL⟩ := open_sl lcells 5 lcells_length (by omega) under_lines (by kernel_rfl) (fun _ _ _ h => open_line h) h4
  obtain ⟨B, m, cap2, C, e5, hC⟩ := open_sl ccells 3 ccells_length (by omega) under_claims (by kernel_rfl) (fun _ _ _ h => open_claim h) h5
  obtain ⟨s, e6⟩ := open_dig h6
  refine ⟨⟨a, b, c, d, A, n, cap, B, m, cap2, s⟩, L, C, ?_, hL, hC⟩
  match cs, hl with
  | v0 :: v1 :: v2 :: v3 :: v4 :: v5 :: r, hl =>
    simp at h0 h1 h2 h3
    simp only [List.drop_succ_cons, List.drop_zero, List.take_succ_cons, List.take_zero, List.cons.injEq, and_true] at e4 e5
    rw [List.take_of_length_le (by simp at hl ⊢; omega)] at e6
    simp only [List.drop_succ_cons, List.drop_zero] at e6
    subst h0; subst h1; subst h2; subst h3; subst e4; subst e5; subst e6
    rfl
end
end Go.Proofs.YtelnilllleempaaDoor
