/- The example of the statements on layer 42. -/
import Derived.Test.YtelnilllleempaaDoorLaw42
import Derived.Test.YtelnilllleempaaDoorPure
import Derived.Test.YtelnilllleempaaDoorOpen
namespace Go.Proofs.YtelnilllleempaaDoor
set_option linter.all false
open Go Go.RowKit

theorem rx_buildA {P : Program} {a : Act} {dst : Option Tmp} {ty : TypeId} {pos : String} {af : Array Edge} {g : Option (Nat × Bool)} {T e n : TypeId} {zs R : List Value} [hA : ArrOf P T n e] [IsOne P e] [hz : ZeroOf P T zs] {parts : Array (Nat × Operand)}
    (hf : Fills (fun i => some (i * 1, 1)) zs (parts.toList.map fun p => (p.1, a.eval p.2)) R) (w : World) :
    (execOp a.eval { dst := dst, op := .build T parts, type := ty, pos := pos, after := af, guard := g }).run P w = .ok (.value (.agg R.toArray)) w := by
  obtain ⟨z, hz1, hz2⟩ := run_zeroValue (P := P) (T := T) w
  have hfill := hf.fill
  rw [← Array.toList_map] at hfill
  have hb : (Instr.build T (parts.map fun p => (p.1, a.eval p.2))).run P w = .ok (.agg R.toArray) w := by
    simp only [Instr.build, Sem.run_bind, hz1, Result.andThen_ok, run_underlying hA.arr, run_sizeOf (IsOne.size (P := P) (T := e)), hz2, hfill, Sem.run_pure]
  simp [execOp, hb]

def d7 : Dig := ⟨7 :: List.replicate 31 0, rfl⟩
theorem rx_build7 {a : Act} {dst : Option Tmp} {ty : TypeId} {pos : String} {af : Array Edge} {g : Option (Nat × Bool)} {x : Operand} (hx : a.eval x = .int .u8 7) (w : World) :
    (execOp a.eval { dst := dst, op := .build 25 #[(0, x)], type := ty, pos := pos, after := af, guard := g }).run Tryd.prog w = .ok (.value (.agg (dcells d7).toArray)) w := by
  refine rx_buildA (R := dcells d7) ?_ w
  simp only [List.map_cons, List.map_nil, hx]
  refine .cons (o := 0) (s := 1) rfl rfl (by simp) ?_
  have : splice (dcells zeroDig) 0 (Value.int .u8 7).cells.toList = dcells d7 := rfl
  rw [this]
  exact .nil _

theorem rx_buildTrn6 {P : Program} {a : Act} {dst : Option Tmp} {ty : TypeId} {pos : String} {af : Array Edge} {g : Option (Nat × Bool)} {T : TypeId} [hS : StructOf P T (tcells zeroTrn) [(0, 1), (1, 1), (2, 1), (3, 1), (4, 1), (5, 1), (6, 32)]] {o1 o2 o3 o4 o5 o6 : Operand} {s v k : Int} {A B : Option Addr} {n c m d : Nat} {D : Dig} (h1 : a.eval o1 = .int .i64 s) (h2 : a.eval o2 = .int .i64 v) (h3 : a.eval o3 = .int .i64 k) (h4 : a.eval o4 = .slice A n c) (h5 : a.eval o5 = .slice B m d) (h6 : a.eval o6 = .agg (dcells D).toArray) (w : World) :
    (execOp a.eval { dst := dst, op := .build T #[(1, o1), (2, o2), (3, o3), (4, o4), (5, o5), (6, o6)], type := ty, pos := pos, after := af, guard := g }).run P w = .ok (.value (.agg (tcells ⟨0, s, v, k, A, n, c, B, m, d, D⟩).toArray)) w := by
  refine rx_buildSome (R := tcells ⟨0, s, v, k, A, n, c, B, m, d, D⟩) ?_ w
  simp only [List.map_cons, List.map_nil, h1, h2, h3, h4, h5, h6]
  have e0 : ∀ (t : Trn), 6 + 32 ≤ (tcells t).length := fun t => by simp
  refine .cons (o := 1) (s := 1) rfl rfl (by simp) ?_
  have e1 : splice (tcells zeroTrn) 1 (Value.int .i64 s).cells.toList = tcells ⟨0, s, 0, 0, none, 0, 0, none, 0, 0, zeroDig⟩ := rfl
  rw [e1]
  refine .cons (o := 2) (s := 1) rfl rfl (by simp) ?_
  have e2 : splice (tcells ⟨0, s, 0, 0, none, 0, 0, none, 0, 0, zeroDig⟩) 2 (Value.int .i64 v).cells.toList = tcells ⟨0, s, v, 0, none, 0, 0, none, 0, 0, zeroDig⟩ := rfl
  rw [e2]
  refine .cons (o := 3) (s := 1) rfl rfl (by simp) ?_
  have e3 : splice (tcells ⟨0, s, v, 0, none, 0, 0, none, 0, 0, zeroDig⟩) 3 (Value.int .i64 k).cells.toList = tcells ⟨0, s, v, k, none, 0, 0, none, 0, 0, zeroDig⟩ := rfl
  rw [e3]
  refine .cons (o := 4) (s := 1) rfl rfl (by simp) ?_
  have e4 : splice (tcells ⟨0, s, v, k, none, 0, 0, none, 0, 0, zeroDig⟩) 4 (Value.slice A n c).cells.toList = tcells ⟨0, s, v, k, A, n, c, none, 0, 0, zeroDig⟩ := rfl
  rw [e4]
  refine .cons (o := 5) (s := 1) rfl rfl (by simp) ?_
  have e5 : splice (tcells ⟨0, s, v, k, A, n, c, none, 0, 0, zeroDig⟩) 5 (Value.slice B m d).cells.toList = tcells ⟨0, s, v, k, A, n, c, B, m, d, zeroDig⟩ := rfl
  rw [e5]
  refine .cons (o := 6) (s := 32) rfl (by simp [cells_agg]) (by simp) ?_
  have e6 : splice (tcells ⟨0, s, v, k, A, n, c, B, m, d, zeroDig⟩) 6 (Value.agg (dcells D).toArray).cells.toList = tcells ⟨0, s, v, k, A, n, c, B, m, d, D⟩ := by
    have := splice_mid [.int .i64 0, .int .i64 s, .int .i64 v, .int .i64 k, .slice A n c, .slice B m d] (dcells zeroDig) [] (dcells D) 6 rfl (by simp)
    simpa [tcells, cells_agg] using this
  rw [e6]
  exact .nil _

def exL : List Line := [⟨3, 1, 6, 4, 0⟩, ⟨2, 2, 9, 10, 0⟩]
def exC : List Claim := [⟨4, 1, true⟩]
def exT (b1 b2 : Nat) : Trn := ⟨0, 5, 1, 8, some ⟨b1, 0, none⟩, 2, 2, some ⟨b2, 0, none⟩, 1, 1, d7⟩

set_option maxRecDepth 20000 in
set_option maxHeartbeats 1600000 in
theorem example_any (w0 : World) : Calls Tryd.prog 58 #[] w0 fun e w' => ∃ b1 b2, e = .returned (tV (exT b1 b2)) ∧ Mem w0 [] [(b2, 71, csV exC), (b1, 63, lsV exL)] w' := by
  have hM := Mem.refl w0 []
  go_enter Tryd.func58, Tryd.ntmps58
  go_wp2_with ((first | (with_reducible refine arm_on0 ?_) | (with_reducible refine arm_on (by with_unfolding_all rfl) ?_)); (first | (((with_reducible refine arm_alloc hM ?_); clear hM; intro tb w hb hM; (try simp only [nrm]))) | (((with_reducible refine wp_value (rx_build7 (by simp only [evl]; first | done | with_reducible rfl) _) ?_); (try simp only [nrm]))) | (((with_reducible refine wp_value (rx_buildTrn6 (by simp only [evl]; first | done | with_reducible rfl) (by simp only [evl]; first | done | with_reducible rfl) (by simp only [evl]; first | done | with_reducible rfl) (by simp only [evl]; first | done | with_reducible rfl) (by simp only [evl]; first | done | with_reducible rfl) (by simp only [evl]; first | done | with_reducible rfl) _) ?_); (try simp only [nrm]))) | (with_reducible refine arm_buildSlice (e := 63) (xs := lsV exL) hM (by with_unfolding_all rfl) (by with_unfolding_all rfl) (by intro p hp; simp only [List.mem_cons, List.not_mem_nil, or_false] at hp; rcases hp with rfl | rfl <;> (simp only [evl, dV_cells, nV_cells, lV_cells, cV_cells, cells_agg, cells_int, cells_bool, cells_slice, cells_ptr, cells_func, cells_str, cells_byteV, cells_wV]; simp)) (by decide) ?_; clear hM; intro b1 w hb1 hM; (try simp only [nrm])) | (with_reducible refine arm_buildSlice (e := 71) (xs := csV exC) hM (by with_unfolding_all rfl) (by with_unfolding_all rfl) (by intro p hp; simp only [List.mem_cons, List.not_mem_nil, or_false] at hp; rcases hp with rfl <;> (simp only [evl, dV_cells, nV_cells, lV_cells, cV_cells, cells_agg, cells_int, cells_bool, cells_slice, cells_ptr, cells_func, cells_str, cells_byteV, cells_wV]; simp)) (by decide) ?_; clear hM; intro b2 w hb2 hM; (try simp only [nrm])) | ((with_reducible refine arm_storeW hM (by simp only [evl]; first | done | with_reducible rfl) (by simp only [evl, dV_cells, nV_cells, lV_cells, cV_cells, cells_agg, cells_int, cells_bool, cells_slice, cells_ptr, cells_func, cells_str, cells_byteV, cells_wV, List.toList_toArray]; first | done | with_reducible rfl) (by simp) (by first | exact dcells_one _ | exact stV_one _ | exact shcells_one _ | exact mtcells_one _ | exact tcells_one _ | exact rcells_one _ | exact ncells_one _ | exact lcells_one _ | exact ccells_one _ | exact bytesV_one _ | exact ivc_one _ | (simp [Value.oneCell']; done)) (by (repeat (first | exact Upd.head _ | apply Upd.tail | apply Upd.app)); first | done | fail) (by simp) ?_); clear hM; intro w hM; (try simp only [nrm]))))
  exact ret_cell rfl hM rfl (by (repeat (first | exact mHd | apply mTl | apply mAp)); first | done | fail) (by simp) rfl ⟨b1, b2, rfl, hM.sub (by repeat (first | exact List.Sublist.refl _ | exact List.nil_sublist _ | apply List.Sublist.cons_cons | apply List.Sublist.cons))⟩

/-- what is shown is verified -/
theorem verL_shown (base : Dig) (L : List Line) (hall : ∀ x ∈ L, okLine x) (hl : L.length ≤ 100000) (i : Nat) (hi : i < L.length) (n : Nat) (hn : n = L.length) :
    verL (L.getD i zeroLine) (saltL base (L.getD i zeroLine)) (i : Int) (n : Int) (pathD (leavesL base L) i) (treeD (leavesL base L)) = true := by
  subst hn
  have hok : okLine (L.getD i zeroLine) := hall _ (by
    rw [List.getD_eq_getElem?_getD, List.getElem?_eq_getElem hi]; exact List.getElem_mem _)
  have hlen : (leavesL base L).length = L.length := by simp [leavesL]
  have hpl := pathD_len (leavesL base L) i (by omega)
  have hct := climb_tree (leavesL base L) i (by omega) (by omega)
  have hg : (leavesL base L).getD i zeroDig = lineD (L.getD i zeroLine) (saltL base (L.getD i zeroLine)) := by
    simp [leavesL, List.getD_eq_getElem?_getD, List.getElem?_map, List.getElem?_eq_getElem hi]
  rw [hlen] at hpl hct
  rw [hg] at hct
  unfold verL climbR
  rw [if_pos (by refine ⟨by omega, by omega, by omega, by omega, ?_⟩; simpa using hpl)]
  simp only [Int.toNat_natCast, hct, decide_eq_true hok]
  simp
theorem verC_shown (base : Dig) (L : List Claim) (hall : ∀ x ∈ L, okClaim x) (hl : L.length ≤ 100000) (i : Nat) (hi : i < L.length) (n : Nat) (hn : n = L.length) :
    verC (L.getD i zeroClaim) (saltC base (L.getD i zeroClaim)) (i : Int) (n : Int) (pathD (leavesC base L) i) (treeD (leavesC base L)) = true := by
  subst hn
  have hok : okClaim (L.getD i zeroClaim) := hall _ (by
    rw [List.getD_eq_getElem?_getD, List.getElem?_eq_getElem hi]; exact List.getElem_mem _)
  have hlen : (leavesC base L).length = L.length := by simp [leavesC]
  have hpl := pathD_len (leavesC base L) i (by omega)
  have hct := climb_tree (leavesC base L) i (by omega) (by omega)
  have hg : (leavesC base L).getD i zeroDig = claimD (L.getD i zeroClaim) (saltC base (L.getD i zeroClaim)) := by
    simp [leavesC, List.getD_eq_getElem?_getD, List.getElem?_map, List.getElem?_eq_getElem hi]
  rw [hlen] at hpl hct
  rw [hg] at hct
  unfold verC climbR
  rw [if_pos (by refine ⟨by omega, by omega, by omega, by omega, ?_⟩; simpa using hpl)]
  simp only [Int.toNat_natCast, hct, decide_eq_true hok]
  simp

theorem exOrdL : ordL exL (-1) = true := by decide +kernel
theorem exOrdC : ordC exC (-1) = true := by decide +kernel
theorem exOk (b1 b2 : Nat) : okT (exT b1 b2) exL exC = true := by simp only [okT, exOrdL, exOrdC, exT]; rfl
def exE (b1 b2 : Nat) : Trn := ⟨0, 5, 1, 8, none, 0, 0, none, 0, 0, d7⟩
theorem exEOk (b1 b2 : Nat) : okT (exE b1 b2) [] [] = true := by simp only [okT, exE]; rfl
theorem zeroNotOk : okT zeroTrn [] [] = false := by rfl
theorem verZero : verL zeroLine zeroDig 0 0 [] zeroDig = false := by simp [verL, climbR]
theorem exMid (b1 b2 : Nat) : (tcells (exT b1 b2)).set 4 (.slice none 0 0) = tcells ⟨0, 5, 1, 8, none, 0, 0, some ⟨b2, 0, none⟩, 1, 1, d7⟩ := rfl
theorem exEnd (b1 b2 : Nat) : (tcells ⟨0, 5, 1, 8, none, 0, 0, some ⟨b2, 0, none⟩, 1, 1, d7⟩).set 5 (.slice none 0 0) = tcells (exE b1 b2) := rfl
theorem exPoint (tl : List Value) : (nsV (nodesL d7 exL) ++ tl)[33]? = some (.int .i64 24) := by
  rw [List.getElem?_append_left (by simp [nodesL, exL])]
  have := flatMap_get ncells 34 ncells_length (nodesL d7 exL) 0 33 (leafN ⟨3, 1, 6, 4, 0⟩ (saltL d7 ⟨3, 1, 6, 4, 0⟩)) rfl (by omega)
  rw [Nat.zero_mul, Nat.zero_add] at this
  exact this.trans (ncells_33 _)


theorem Own.room {e : TypeId} {size n c : Nat} {A : Option Addr} {xs : List Value} {ho : List Ent} (h : Own e size (.slice A n c) n xs ho) : n ≤ c ∧ c ≤ maxLen := by
  rcases h.cases' with ⟨h1, h2, _, _⟩ | ⟨g, cap, tl, h1, h2, h3, _⟩
  · cases h1; exact ⟨Nat.le_refl _, by decide⟩
  · cases h1; exact ⟨h2, h3⟩
theorem Own.pos {e : TypeId} {size n c : Nat} {A : Option Addr} {xs : List Value} {ho : List Ent} (h : Own e size (.slice A n c) n xs ho) (hn : 0 < n) : ∃ g tl, A = some ⟨g, 0, none⟩ ∧ ho = [(g, e, xs ++ tl)] := by
  rcases h.cases' with ⟨h1, h2, _, _⟩ | ⟨g, cap, tl, h1, h2, h3, _, _, h4⟩
  · omega
  · cases h1; exact ⟨g, tl, rfl, h4⟩

def DL : Dig := treeD (leavesL d7 exL)
def DC : Dig := treeD (leavesC d7 exC)
def exR : Rt := rootT 2 1 DL DC
def P1 : List Dig := pathD (leavesL d7 exL) 1
def sh1 (A : Option Addr) (c : Nat) : Shn := ⟨1, exL.getD 1 zeroLine, saltL d7 (exL.getD 1 zeroLine), A, P1.length, c⟩
def mt0 (A : Option Addr) (c : Nat) : Mtt := ⟨0, exC.getD 0 zeroClaim, saltC d7 (exC.getD 0 zeroClaim), A, 0, c⟩
theorem P1_len : P1.length = 1 := by
  have := pathD_len (leavesL d7 exL) 1 (by decide)
  rw [P1, this]
  show (dirs 2 1).length = 1
  rw [dirs_more 2 1 (by omega) (by omega)]
  have hh := halfN_lt 2 (by omega) (by omega)
  rw [if_neg (by omega)]
  rw [dirs_one _ _ (by omega)]
  rfl
theorem P0_nil : pathD (leavesC d7 exC) 0 = [] := by
  rw [pathD, pathL_one _ _ (by simp [leavesC, exC])]; rfl

section
variable {b1 b2 : Nat} {w : World}
theorem exSlL {w0 : World} {X : List Nat} {hs : List Ent} (hM : Mem w0 X hs w) (h : (b1, 63, lsV exL) ∈ hs) : SlL w (some ⟨b1, 0, none⟩) 2 2 exL :=
  hM.sl_ent h 0 (by rw [List.drop_zero]; exact List.take_of_length_le (by simp [exL])) (by simp [exL]) (by omega) (by decide)
theorem exSlC {w0 : World} {X : List Nat} {hs : List Ent} (hM : Mem w0 X hs w) (h : (b2, 71, csV exC) ∈ hs) : SlC w (some ⟨b2, 0, none⟩) 1 1 exC :=
  hM.sl_ent h 0 (by rw [List.drop_zero]; exact List.take_of_length_le (by simp [exC])) (by simp [exC]) (by omega) (by decide)
variable (hG : Glo w) (hA : SlL w (some ⟨b1, 0, none⟩) 2 2 exL) (hB : SlC w (some ⟨b2, 0, none⟩) 1 1 exC)
include hA hB
theorem exCheck : Calls Tryd.prog 27 #[tV (exT b1 b2)] w (RetP w (.int .i64 0)) := by
  have := checkT_any (exT b1 b2) exL exC w hA hB (by show 2 ≤ 4096; omega) (by show 1 ≤ 100000; omega)
  rw [exOk] at this
  exact this
include hG
theorem exListed : Calls Tryd.prog 59 #[tV (exT b1 b2)] w (RetP w (.tuple #[dV DL, .int .i64 0])) := by
  have := listedL_any (exT b1 b2) exL exC w hG hA hB (by show 2 ≤ 4096; omega) (by show 1 ≤ 100000; omega)
  rw [exOk, if_pos rfl] at this
  exact this
theorem exClaimed : Calls Tryd.prog 60 #[tV (exT b1 b2)] w (RetP w (.tuple #[dV DC, .int .i64 0])) := by
  have := listedC_any (exT b1 b2) exL exC w hG hA hB (by show 2 ≤ 4096; omega) (by show 1 ≤ 100000; omega)
  rw [exOk, if_pos rfl] at this
  exact this
theorem exNodes : Calls Tryd.prog 36 #[tV (exT b1 b2)] w fun e w' => ∃ g cap tl, e = .returned (.tuple #[.slice (some ⟨g, 0, none⟩) 2 cap, .int .i64 0]) ∧ Mem w [] [(g, 39, nsV (nodesL d7 exL) ++ tl)] w' := by
  refine (nodes_any (exT b1 b2) exL exC w hG hA hB (by show 2 ≤ 4096; omega) (by show 1 ≤ 100000; omega) (exOk b1 b2)).mono fun e w' ⟨v, ho, he, hO, hM⟩ => ?_
  obtain ⟨A, c, rfl⟩ := hO.form
  obtain ⟨g, tl, rfl, rfl⟩ := Own.pos hO (by show 0 < 2; omega)
  exact ⟨g, c, tl, he, hM⟩
theorem exShow : Calls Tryd.prog 28 #[tV (exT b1 b2), .int .i64 1] w fun e w' => ∃ g cap tl, e = .returned (.tuple #[shV (sh1 (some ⟨g, 0, none⟩) cap), .int .i64 0]) ∧ (1 ≤ cap ∧ cap ≤ maxLen) ∧ Mem w [] [(g, 25, dsV P1 ++ tl)] w' := by
  refine (showL_any (exT b1 b2) exL exC 1 w hG hA hB (by show 2 ≤ 4096; omega) (by show 1 ≤ 100000; omega) (exOk b1 b2) (by show 1 < 2; omega)).mono fun e w' ⟨A', c', ho, he, hO, hM⟩ => ?_
  have hl : (pathD (leavesL (exT b1 b2).salt exL) 1).length = 1 := P1_len
  have hroom := Own.room hO
  obtain ⟨g, tl, rfl, rfl⟩ := Own.pos hO (by omega)
  exact ⟨g, c', tl, he, ⟨by omega, hroom.2⟩, hM⟩
theorem exMeets : Calls Tryd.prog 30 #[tV (exT b1 b2), .int .i64 0] w fun e w' => ∃ A' cap, e = .returned (.tuple #[mtV (mt0 A' cap), .int .i64 0]) ∧ cap ≤ maxLen ∧ Below w.heap.size w w' := by
  refine (showC_any (exT b1 b2) exL exC 0 w hG hA hB (by show 2 ≤ 4096; omega) (by show 1 ≤ 100000; omega) (exOk b1 b2) (by show 0 < 1; omega)).mono fun e w' ⟨A', c', ho, he, hO, hM⟩ => ?_
  have hl : pathD (leavesC (exT b1 b2).salt exC) 0 = [] := P0_nil
  rw [hl] at hO he
  exact ⟨A', c', he, (Own.room hO).2, hM.below⟩
omit hG
theorem exMeetsBad : Calls Tryd.prog 30 #[tV (exT b1 b2), .int .i64 1] w (RetP w (.tuple #[mtV zeroMtt, .int .i64 420])) :=
  showEC_any (exT b1 b2) exL exC 1 w hA hB (by show 2 ≤ 4096; omega) (by show 1 ≤ 100000; omega) (.inr (.inr (by show ((1 : Nat) : Int) ≤ 1; omega)))
omit hA hB
theorem exEShow : Calls Tryd.prog 28 #[tV (exE b1 b2), .int .i64 0] w (RetP w (.tuple #[shV zeroShn, .int .i64 420])) :=
  showEL_any (exE b1 b2) [] [] 0 w (Sl.nil w) (Sl.nil w) (by show 0 ≤ 4096; omega) (by show 0 ≤ 100000; omega) (.inr (.inr (by show ((0 : Nat) : Int) ≤ 0; omega)))
theorem exEClaimed (hG : Glo w) : Calls Tryd.prog 60 #[tV (exE b1 b2)] w (RetP w (.tuple #[dV (treeD []), .int .i64 0])) := by
  have := listedC_any (exE b1 b2) [] [] w hG (Sl.nil w) (Sl.nil w) (by show 0 ≤ 4096; omega) (by show 0 ≤ 100000; omega)
  rw [exEOk, if_pos rfl] at this
  exact this
theorem exCheck0 : Calls Tryd.prog 27 #[tV zeroTrn] w (RetP w (.int .i64 420)) := by
  have := checkT_any zeroTrn [] [] w (Sl.nil w) (Sl.nil w) (by show 0 ≤ 4096; omega) (by show 0 ≤ 100000; omega)
  rw [zeroNotOk] at this
  exact this
theorem exVerify0 (hG : Glo w) : Calls Tryd.prog 29 #[rV zeroRt, shV zeroShn] w (RetP w (.int .i64 420)) := by
  have := verifyEL_any zeroRt zeroShn [] w hG (Sl.nil w)
  have e : verL zeroShn.line zeroShn.salt zeroShn.at_ zeroRt.lines [] zeroRt.listed = false := verZero
  rw [e] at this
  exact this
theorem exVerify (hG : Glo w) {w0 : World} {hs : List Ent} (hM : Mem w0 [] hs w) {g cap : Nat} {tl : List Value} (hc : 1 ≤ cap ∧ cap ≤ maxLen) (h : (g, 25, dsV P1 ++ tl) ∈ hs) :
    Calls Tryd.prog 29 #[rV exR, shV (sh1 (some ⟨g, 0, none⟩) cap)] w (RetP w (.int .i64 0)) := by
  have hP : SlD w (some ⟨g, 0, none⟩) P1.length cap P1 := hM.sl_ent h 0 (by rw [List.drop_zero, ← dsV_length, List.take_left]) (by simp) (by rw [P1_len]; exact hc.1) hc.2
  have := verifyEL_any exR (sh1 (some ⟨g, 0, none⟩) cap) P1 w hG hP
  have e : verL (sh1 (some ⟨g, 0, none⟩) cap).line (sh1 (some ⟨g, 0, none⟩) cap).salt (sh1 (some ⟨g, 0, none⟩) cap).at_ exR.lines P1 exR.listed = true :=
    verL_shown d7 exL (ordL_ok _ _ exOrdL) (by decide) 1 (by decide) 2 rfl
  rw [e] at this
  exact this
theorem exVerifyMet (hG : Glo w) {A' : Option Addr} {cap : Nat} (hc : cap ≤ maxLen) :
    Calls Tryd.prog 31 #[rV exR, mtV (mt0 A' cap)] w (RetP w (.int .i64 0)) := by
  have hP : SlD w A' 0 cap [] := ⟨rfl, Nat.zero_le _, hc, fun h => absurd h (by decide)⟩
  have := verifyEC_any exR (mt0 A' cap) [] w hG hP
  have e : verC (mt0 A' cap).claim (mt0 A' cap).salt (mt0 A' cap).at_ exR.claims [] exR.claimed = true := by
    have := verC_shown d7 exC (ordC_ok _ _ exOrdC) (by decide) 0 (by decide) 1 rfl
    rw [P0_nil] at this
    exact this
  rw [e] at this
  exact this
end

end Go.Proofs.YtelnilllleempaaDoor
