/- Tagged, leaf, node. -/
import Derived.Test.YtelnilllleempaaDoorSum
import Derived.Test.YtelnilllleempaaDoorCat
import Derived.Shelf.Lay
import Derived.Shelf.Small.Bits
import Derived.Lib.ItoaNum
namespace Go.Proofs
open Go.Shelf
shelf_lay Lays.n129 Nm 129 at Tryd as Tryd.lays129
shelf_lay Lays.n125 Nm 125 at Tryd as Tryd.lays125
end Go.Proofs
namespace Go.Proofs.YtelnilllleempaaDoor
set_option linter.all false
open Go Go.RowKit

def tagged (tag b : List UInt8) : Dig := sha ((sha tag).l ++ b)

set_option maxRecDepth 20000 in
set_option maxHeartbeats 800000 in
theorem tagged_any (tag : ByteArray) (A0 : Option Addr) (n c0 : Nat) (l : List UInt8) (w0 : World) (hG : Glo w0) (ht : tag.size ≤ 1000000) (h : SlB w0 A0 n c0 l) (hn : n ≤ 900000000) :
    Calls Tryd.prog 33 #[.string tag, .slice A0 n c0] w0 (RetP w0 (dV (tagged tag.data.toList l))) := by
  have hM := Mem.refl w0 []
  go_enter Tryd.func33, Tryd.ntmps33
  go_wp2_with ((first | (with_reducible refine arm_on0 ?_) | (with_reducible refine arm_on (by with_unfolding_all rfl) ?_)); (first | ((with_reducible refine arm_strBytes hM (by simp only [evl]; first | done | with_reducible rfl) ((by unfold maxLen; omega)) ?_); clear hM; intro A c w hsl hM; (try simp only [nrm])) | ((with_reducible refine arm_call hM (sum_any _ _ _ _ _ (hM.glo hG) hsl (by omega)) (by simp only [evl]; first | done | with_reducible rfl) (by with_unfolding_all rfl) ?_); clear hM; intro w hM; (try simp only [nrm])) | ((with_reducible refine arm_alloc hM ?_); clear hM; intro d w hb hM; (try simp only [nrm])) | ((with_reducible refine arm_storeW hM (by simp only [evl]; first | done | with_reducible rfl) (by simp only [evl, dV_cells, nV_cells, lV_cells, cV_cells, cells_agg, cells_int, cells_bool, cells_slice, cells_ptr, cells_func, cells_str, cells_byteV, cells_wV, List.toList_toArray]; first | done | with_reducible rfl) (by simp) (by first | exact dcells_one _ | exact stV_one _ | exact shcells_one _ | exact mtcells_one _ | exact tcells_one _ | exact rcells_one _ | exact ncells_one _ | exact lcells_one _ | exact ccells_one _ | exact bytesV_one _ | exact ivc_one _ | (simp [Value.oneCell']; done)) (by (repeat (first | exact Upd.head _ | apply Upd.tail | apply Upd.app)); first | done | fail) (by simp) ?_); clear hM; intro w hM; (try simp only [nrm])) | ((with_reducible refine arm_buildSlice hM (by with_unfolding_all rfl) (by simp only [List.map_cons, List.map_nil]; simp only [evl, dV_cells, nV_cells, lV_cells, cV_cells, cells_agg, cells_int, cells_bool, cells_slice, cells_ptr, cells_func, cells_str, cells_byteV, cells_wV, List.toList_toArray]; simp only [List.flatten_cons, List.flatten_nil, List.append_nil, List.cons_append, List.nil_append]; with_reducible rfl) (by intro p hp; simp only [List.mem_cons, List.not_mem_nil, or_false] at hp; rcases hp with rfl | rfl <;> (simp only [evl, dV_cells, nV_cells, lV_cells, cV_cells, cells_agg, cells_int, cells_bool, cells_slice, cells_ptr, cells_func, cells_str, cells_byteV, cells_wV]; simp)) (by decide) ?_); clear hM; intro b w hb hM; (try simp only [nrm])) | ((with_reducible refine arm_callO hM (concat2_any b _ _ _ _ _ _ _ _ _ w (hM.has _ List.mem_cons_self) (hM.slB_dig (by (repeat (first | exact mHd | apply mTl | apply mAp)); first | done | fail)) (hM.sl h) (by omega)) (by simp only [evl]; first | done | with_reducible rfl) (by with_unfolding_all rfl) ?_); clear hM; intro v ho w hO hM; obtain ⟨A, c, rfl, hsl⟩ := hO.sl hM; clear hO; replace hM := hM.sub (List.sublist_append_right _ _); (try simp only [nrm]))))
  exact ret_cell rfl hM rfl (by (repeat (first | exact mHd | apply mTl | apply mAp)); first | done | fail) (by simp) rfl ⟨rfl, hM.below⟩

def leafD (d : Dig) : Dig := tagged [108, 101, 97, 102] d.l
def nodeD (x y : Dig) : Dig := tagged [110, 111, 100, 101] (x.l ++ y.l)

set_option maxHeartbeats 400000 in
theorem leaf_any (d : Dig) (w0 : World) (hG : Glo w0) : Calls Tryd.prog 94 #[dV d] w0 (RetP w0 (dV (leafD d))) := by
  have hM := Mem.refl w0 []
  go_enter Tryd.func94, Tryd.ntmps94
  go_wp2_with ((first | (with_reducible refine arm_on0 ?_) | (with_reducible refine arm_on (by with_unfolding_all rfl) ?_)); (first | ((with_reducible refine arm_alloc hM ?_); clear hM; intro b w hb hM; (try simp only [nrm])) | ((with_reducible refine arm_box hM (by simp only [evl, dV_cells, nV_cells, lV_cells, cV_cells, cells_agg, cells_int, cells_bool, cells_slice, cells_ptr, cells_func, cells_str, cells_byteV, cells_wV, List.toList_toArray]; first | done | with_reducible rfl) ?_); clear hM; intro b w hb hM; (try simp only [nrm])) | ((with_reducible refine arm_storeW hM (by simp only [evl]; first | done | with_reducible rfl) (by simp only [evl, dV_cells, nV_cells, lV_cells, cV_cells, cells_agg, cells_int, cells_bool, cells_slice, cells_ptr, cells_func, cells_str, cells_byteV, cells_wV, List.toList_toArray]; first | done | with_reducible rfl) (by simp) (by first | exact dcells_one _ | exact stV_one _ | exact shcells_one _ | exact mtcells_one _ | exact tcells_one _ | exact rcells_one _ | exact ncells_one _ | exact lcells_one _ | exact ccells_one _ | exact bytesV_one _ | exact ivc_one _ | (simp [Value.oneCell']; done)) (by (repeat (first | exact Upd.head _ | apply Upd.tail | apply Upd.app)); first | done | fail) (by simp) ?_); clear hM; intro w hM; (try simp only [nrm])) | ((with_reducible refine arm_call hM (tagged_any ⟨#[108, 101, 97, 102]⟩ _ _ _ _ _ (hM.glo hG) (by decide) (hM.slB_dig (d := d) (by (repeat (first | exact mHd | apply mTl | apply mAp)); first | done | fail)) (by omega)) (by simp only [evl]; first | done | with_reducible rfl) (by with_unfolding_all rfl) ?_); clear hM; intro w hM; (try simp only [nrm]))))
  exact ret_cell rfl hM rfl (by (repeat (first | exact mHd | apply mTl | apply mAp)); first | done | fail) (by simp) rfl ⟨rfl, hM.below⟩

set_option maxHeartbeats 400000 in
theorem node_any (x y : Dig) (w0 : World) (hG : Glo w0) : Calls Tryd.prog 96 #[dV x, dV y] w0 (RetP w0 (dV (nodeD x y))) := by
  have hM := Mem.refl w0 []
  go_enter Tryd.func96, Tryd.ntmps96
  go_wp2_with ((first | (with_reducible refine arm_on0 ?_) | (with_reducible refine arm_on (by with_unfolding_all rfl) ?_)); (first | ((with_reducible refine arm_alloc hM ?_); clear hM; intro b w hb hM; (try simp only [nrm])) | ((with_reducible refine arm_box hM (by simp only [evl, dV_cells, nV_cells, lV_cells, cV_cells, cells_agg, cells_int, cells_bool, cells_slice, cells_ptr, cells_func, cells_str, cells_byteV, cells_wV, List.toList_toArray]; first | done | with_reducible rfl) ?_); clear hM; intro b w hb hM; (try simp only [nrm])) | ((with_reducible refine arm_storeW hM (by simp only [evl]; first | done | with_reducible rfl) (by simp only [evl, dV_cells, nV_cells, lV_cells, cV_cells, cells_agg, cells_int, cells_bool, cells_slice, cells_ptr, cells_func, cells_str, cells_byteV, cells_wV, List.toList_toArray]; first | done | with_reducible rfl) (by simp) (by first | exact dcells_one _ | exact stV_one _ | exact shcells_one _ | exact mtcells_one _ | exact tcells_one _ | exact rcells_one _ | exact ncells_one _ | exact lcells_one _ | exact ccells_one _ | exact bytesV_one _ | exact ivc_one _ | (simp [Value.oneCell']; done)) (by (repeat (first | exact Upd.head _ | apply Upd.tail | apply Upd.app)); first | done | fail) (by simp) ?_); clear hM; intro w hM; (try simp only [nrm]))))
  (refine wpB.beginM 6 [2, 3, 4, 5] rfl (by kernel_rfl) hM ?_; clear hM; intro w hM; have hS := hM; refine wpB.tkW 0 (hS := (by first | exact fun _ => hS | exact fun h => absurd h (by decide +kernel))) (hy := fun w => by (go_simp; first | with_reducible rfl | (refine (if_pos ?_).trans ?_; (omega); with_reducible rfl) | (refine (if_neg ?_).trans ?_; (omega); with_reducible rfl))) (h := ?_); (try simp only [nrm]); refine wpB.tkW 1 (hS := (by first | exact fun _ => hS | exact fun h => absurd h (by decide +kernel))) (hy := fun w => by (go_simp; first | with_reducible rfl | (refine (if_pos ?_).trans ?_; (omega); with_reducible rfl) | (refine (if_neg ?_).trans ?_; (omega); with_reducible rfl))) (h := ?_); (try simp only [nrm]); refine wpB.only 2 (by simp only [List.getElem?_toArray, List.getElem?_cons_succ, List.getElem?_cons_zero]; with_reducible rfl) (by kernel_rfl) (by with_unfolding_all rfl) ?_; ((with_reducible refine arm_buildSlice hM (by with_unfolding_all rfl) (by simp only [List.map_cons, List.map_nil]; simp only [evl, dV_cells, nV_cells, lV_cells, cV_cells, cells_agg, cells_int, cells_bool, cells_slice, cells_ptr, cells_func, cells_str, cells_byteV, cells_wV, List.toList_toArray]; simp only [List.flatten_cons, List.flatten_nil, List.append_nil, List.cons_append, List.nil_append]; with_reducible rfl) (by intro p hp; simp only [List.mem_cons, List.not_mem_nil, or_false] at hp; rcases hp with rfl | rfl <;> (simp only [evl, dV_cells, nV_cells, lV_cells, cV_cells, cells_agg, cells_int, cells_bool, cells_slice, cells_ptr, cells_func, cells_str, cells_byteV, cells_wV]; simp)) (by decide) ?_); clear hM; intro b w hb hM; (try simp only [nrm])); (clear hS; have hS := hM; refine ⟨fun h => absurd h (by decide +kernel), ?_⟩); refine wpB.only 3 (by simp only [List.getElem?_toArray, List.getElem?_cons_succ, List.getElem?_cons_zero]; with_reducible rfl) (by kernel_rfl) (by with_unfolding_all rfl) ?_; ((with_reducible refine arm_callO hM (concat2_any b _ _ _ _ _ _ _ _ _ w (hM.has _ List.mem_cons_self) (hM.slB_dig (d := x) (by (repeat (first | exact mHd | apply mTl | apply mAp)); first | done | fail)) (hM.slB_dig (d := y) (by (repeat (first | exact mHd | apply mTl | apply mAp)); first | done | fail)) (by omega)) (by simp only [evl]; first | done | with_reducible rfl) (by with_unfolding_all rfl) ?_); clear hM; intro v ho w hO hM; obtain ⟨A, c, rfl, hsl⟩ := hO.sl hM; clear hO; replace hM := hM.sub (List.sublist_append_right _ _); (try simp only [nrm])); (clear hS; have hS := hM; refine ⟨fun h => absurd h (by decide +kernel), ?_⟩); refine wpB.only 4 (by simp only [List.getElem?_toArray, List.getElem?_cons_succ, List.getElem?_cons_zero]; with_reducible rfl) (by kernel_rfl) (by with_unfolding_all rfl) ?_; ((with_reducible refine arm_call hM (tagged_any ⟨#[110, 111, 100, 101]⟩ _ _ _ _ _ (hM.glo hG) (by decide) hsl (by omega)) (by simp only [evl]; first | done | with_reducible rfl) (by with_unfolding_all rfl) ?_); clear hM; intro w hM; (try simp only [nrm])); (clear hS; have hS := hM; refine ⟨fun h => absurd h (by decide +kernel), ?_⟩); refine wpB.only 5 (by simp only [List.getElem?_toArray, List.getElem?_cons_succ, List.getElem?_cons_zero]; with_reducible rfl) (by kernel_rfl) (by with_unfolding_all rfl) ?_; ((with_reducible refine arm_storeW hM (by simp only [evl]; first | done | with_reducible rfl) (by simp only [evl, dV_cells, nV_cells, lV_cells, cV_cells, cells_agg, cells_int, cells_bool, cells_slice, cells_ptr, cells_func, cells_str, cells_byteV, cells_wV, List.toList_toArray]; first | done | with_reducible rfl) (by simp) (by first | exact dcells_one _ | exact stV_one _ | exact shcells_one _ | exact mtcells_one _ | exact tcells_one _ | exact rcells_one _ | exact ncells_one _ | exact lcells_one _ | exact ccells_one _ | exact bytesV_one _ | exact ivc_one _ | (simp [Value.oneCell']; done)) (by (repeat (first | exact Upd.head _ | apply Upd.tail | apply Upd.app)); first | done | fail) (by simp) ?_); clear hM; intro w hM; (try simp only [nrm])); (clear hS; have hS := hM; refine ⟨fun h => absurd h (by decide +kernel), ?_⟩); refine wpB.done (by kernel_rfl) ?_ _)
  go_wp2_with ((first | (with_reducible refine arm_on0 ?_) | (with_reducible refine arm_on (by with_unfolding_all rfl) ?_)); (first | ((with_reducible refine arm_loadW hM (by simp only [evl]; first | done | with_reducible rfl) (by (repeat (first | exact mHd | apply mTl | apply mAp)); first | done | fail) (by first | (simp; done) | with_unfolding_all rfl) ?_); (try simp only [nrm]))))
  exact ret_cell rfl hM rfl (by (repeat (first | exact mHd | apply mTl | apply mAp)); first | done | fail) (by simp) rfl ⟨rfl, hM.below⟩

section
open Go Go.RowKit
theorem bl_spec (x : Nat) (h : x ≠ 0) (h1 : x < 18446744073709551616) : 1 ≤ Lib.bitLen x ∧ 2 ^ (Lib.bitLen x - 1) ≤ x ∧ x < 2 ^ Lib.bitLen x :=
  Lib.bitLenAux_bounds 64 x (by omega) h
theorem len_any (x : Nat) (w : World) (h1 : x ≤ 18446744073709551615) :
    Calls Tryd.prog 85 #[.int .u64 (x : Int)] w fun e w' => e = .returned (.int .i64 (Lib.bitLen x)) ∧ w = w' :=
  (Any.bits_Len Tryd.lays125 (x : Int) w (by omega) (by omega)).mono fun e w' h => ⟨by simpa using h.1, h.2.symm⟩

/-- how many leaves the left part of a tree of n leaves has -/
def halfN (n : Nat) : Nat := 2 ^ (Lib.bitLen (n - 1) - 1)

theorem halfN_lt (n : Nat) (h : 2 ≤ n) (h1 : n ≤ 1099511627776) : 1 ≤ halfN n ∧ halfN n < n := by
  have := (bl_spec (n - 1) (by omega) (by omega)).2.1
  unfold halfN
  exact ⟨Nat.one_le_two_pow, by omega⟩

set_option maxHeartbeats 400000 in
theorem half_any (n : Nat) (h : 2 ≤ n) (hn : n ≤ 1099511627776) (w0 : World) :
    Calls Tryd.prog 95 #[.int .i64 (n : Int)] w0 fun e w' => e = .returned (.int .i64 (halfN n)) ∧ w0 = w' := by
  have e1 : IntKind.i64.wrap ((n : Int) - 1) = ((n - 1 : Nat) : Int) := by rw [IntKind.wrap_i64]; omega
  have hb := (bl_spec (n - 1) (by omega) (by omega)).2.1
  have hb0 := (bl_spec (n - 1) (by omega) (by omega)).1
  have hb2 : Lib.bitLen (n - 1) - 1 < 41 := by
    rcases Nat.lt_or_ge (Lib.bitLen (n - 1) - 1) 41 with h | h
    · exact h
    · have := Nat.pow_le_pow_right (show 0 < 2 by omega) h
      omega
  have e2 : IntKind.i64.wrap ((Lib.bitLen (n - 1) : Int) - 1) = ((Lib.bitLen (n - 1) - 1 : Nat) : Int) := by rw [IntKind.wrap_i64]; omega
  go_enter Tryd.func95, Tryd.ntmps95
  go_wp2_with ((first | (with_reducible refine arm_on0 ?_) | (with_reducible refine arm_on (by with_unfolding_all rfl) ?_)); (first | (with_reducible refine arm_convI (T2 := 28) (m := ((n - 1 : Nat) : Int)) (by simp only [evl]; first | done | with_reducible rfl) (by rw [IntKind.wrap_u64]; omega) ?_; (try simp only [nrm])) | ((with_reducible refine arm_callW (len_any (n - 1) _ (by omega)) (by simp only [evl]; first | done | with_reducible rfl) (by with_unfolding_all rfl) ?_); (try simp only [nrm]))))
  have e3 : wrap64 (2 ^ (Lib.bitLen (n - 1) - 1)) = ((halfN n : Nat) : Int) := by
    have hc : ((2 ^ (Lib.bitLen (n - 1) - 1) : Nat) : Int) = (2 : Int) ^ (Lib.bitLen (n - 1) - 1) := by simp
    rw [← hc]
    unfold halfN
    generalize 2 ^ (Lib.bitLen (n - 1) - 1) = p at hb
    unfold wrap64
    omega
  rw [e3]
  go_ret
  exact ⟨rfl, rfl⟩
end

section
open Go Go.RowKit

theorem halfN_pow (n j : Nat) (h : 2 ≤ n) (hn : n ≤ 1099511627776) (h1 : 2 ^ j < n) (h2 : n ≤ 2 * 2 ^ j) : halfN n = 2 ^ j := by
  obtain ⟨b1, b2, b3⟩ := bl_spec (n - 1) (by omega) (by omega)
  unfold halfN
  congr 1
  have e1 : 2 ^ j < 2 ^ Lib.bitLen (n - 1) := by omega
  have e2 : 2 ^ (Lib.bitLen (n - 1) - 1) < 2 ^ (j + 1) := by rw [Nat.pow_succ]; omega
  have e3 := (Nat.pow_lt_pow_iff_right (by omega : 1 < 2)).1 e1
  have e4 := (Nat.pow_lt_pow_iff_right (by omega : 1 < 2)).1 e2
  omega

set_option maxHeartbeats 400000 in
theorem treeHalf_any (n : Nat) (h : 2 ≤ n) (hn : n ≤ 1000000000) (w0 : World) :
    Calls Tryd.prog 84 #[.int .i64 (n : Int)] w0 fun e w' => e = .returned (.int .i64 (halfN n)) ∧ w0 = w' := by
  go_enter Tryd.func84, Tryd.ntmps84
  go_wp2_with ((first | (with_reducible refine arm_on0 ?_) | (with_reducible refine arm_on (by with_unfolding_all rfl) ?_)); (first | fail))
  go_loopw [3] (fun k wr => ∃ (p j : Nat), k = .int .i64 (p : Int) ∧ 2 ^ j = p ∧ p < n ∧ wr = w0) (fun k _ => n - (intOf k).toNat)
  case atStart => exact ⟨1, 0, rfl, rfl, by omega, rfl⟩
  case round =>
    obtain ⟨p, j, rfl, hp, hlt, rfl⟩ := hrel
    have e1 : IntKind.i64.wrap (2 * (p : Int)) = 2 * (p : Int) := by rw [IntKind.wrap_i64]; omega
    have e2 : IntKind.i64.wrap ((p : Int) * 2) = (p : Int) * 2 := by rw [IntKind.wrap_i64]; omega
    have h0 : 0 < p := by rw [← hp]; exact Nat.two_pow_pos j
    by_cases hlt2 : 2 * p < n
    · go_wp2_with ((first | (with_reducible refine arm_on0 ?_) | (with_reducible refine arm_on (by with_unfolding_all rfl) ?_)); (first | fail))
      go_roundw
      case rel => exact ⟨2 * p, j + 1, (by first | rfl | trivial | (congr 1; omega) | (congr 2; omega)), by rw [Nat.pow_succ, hp]; omega, by omega, (by first | rfl | trivial | (congr 1; omega) | (congr 2; omega))⟩
      case measure => simp only [intOf]; omega
    · have hh : halfN n = p := by rw [← hp]; exact halfN_pow n j h (by omega) (by omega) (by omega)

      clear hp
      go_wp2_with ((first | (with_reducible refine arm_on0 ?_) | (with_reducible refine arm_on (by with_unfolding_all rfl) ?_)); (first | fail))
      go_ret
      exact ⟨by rw [hh]; rfl, (by first | rfl | trivial | (congr 1; omega) | (congr 2; omega))⟩

set_option maxHeartbeats 400000 in
theorem law43Half_any (n : Nat) (h : 2 ≤ n) (hn : n ≤ 1000000000) (w0 : World) :
    Calls Tryd.prog 54 #[.int .i64 (n : Int)] w0 fun e w' => e = .returned (.int .i64 (halfN n)) ∧ w0 = w' := by
  go_enter Tryd.func54, Tryd.ntmps54
  go_wp2_with ((first | (with_reducible refine arm_on0 ?_) | (with_reducible refine arm_on (by with_unfolding_all rfl) ?_)); (first | fail))
  go_loopw [3] (fun k wr => ∃ (p j : Nat), k = .int .i64 (p : Int) ∧ 2 ^ j = p ∧ p < n ∧ wr = w0) (fun k _ => n - (intOf k).toNat)
  case atStart => exact ⟨1, 0, rfl, rfl, by omega, rfl⟩
  case round =>
    obtain ⟨p, j, rfl, hp, hlt, rfl⟩ := hrel
    have e1 : IntKind.i64.wrap (2 * (p : Int)) = 2 * (p : Int) := by rw [IntKind.wrap_i64]; omega
    have e2 : IntKind.i64.wrap ((p : Int) * 2) = (p : Int) * 2 := by rw [IntKind.wrap_i64]; omega
    have h0 : 0 < p := by rw [← hp]; exact Nat.two_pow_pos j
    by_cases hlt2 : 2 * p < n
    · go_wp2_with ((first | (with_reducible refine arm_on0 ?_) | (with_reducible refine arm_on (by with_unfolding_all rfl) ?_)); (first | fail))
      go_roundw
      case rel => exact ⟨2 * p, j + 1, (by first | rfl | trivial | (congr 1; omega) | (congr 2; omega)), by rw [Nat.pow_succ, hp]; omega, by omega, (by first | rfl | trivial | (congr 1; omega) | (congr 2; omega))⟩
      case measure => simp only [intOf]; omega
    · have hh : halfN n = p := by rw [← hp]; exact halfN_pow n j h (by omega) (by omega) (by omega)

      clear hp
      go_wp2_with ((first | (with_reducible refine arm_on0 ?_) | (with_reducible refine arm_on (by with_unfolding_all rfl) ?_)); (first | fail))
      go_ret
      exact ⟨by rw [hh]; rfl, (by first | rfl | trivial | (congr 1; omega) | (congr 2; omega))⟩

set_option maxHeartbeats 400000 in
theorem law42Half_any (n : Nat) (h : 2 ≤ n) (hn : n ≤ 1000000000) (w0 : World) :
    Calls Tryd.prog 115 #[.int .i64 (n : Int)] w0 fun e w' => e = .returned (.int .i64 (halfN n)) ∧ w0 = w' := by
  go_enter Tryd.func115, Tryd.ntmps115
  go_wp2_with ((first | (with_reducible refine arm_on0 ?_) | (with_reducible refine arm_on (by with_unfolding_all rfl) ?_)); (first | fail))
  go_loopw [3] (fun k wr => ∃ (p j : Nat), k = .int .i64 (p : Int) ∧ 2 ^ j = p ∧ p < n ∧ wr = w0) (fun k _ => n - (intOf k).toNat)
  case atStart => exact ⟨1, 0, rfl, rfl, by omega, rfl⟩
  case round =>
    obtain ⟨p, j, rfl, hp, hlt, rfl⟩ := hrel
    have e1 : IntKind.i64.wrap (2 * (p : Int)) = 2 * (p : Int) := by rw [IntKind.wrap_i64]; omega
    have e2 : IntKind.i64.wrap ((p : Int) * 2) = (p : Int) * 2 := by rw [IntKind.wrap_i64]; omega
    have h0 : 0 < p := by rw [← hp]; exact Nat.two_pow_pos j
    by_cases hlt2 : 2 * p < n
    · go_wp2_with ((first | (with_reducible refine arm_on0 ?_) | (with_reducible refine arm_on (by with_unfolding_all rfl) ?_)); (first | fail))
      go_roundw
      case rel => exact ⟨2 * p, j + 1, (by first | rfl | trivial | (congr 1; omega) | (congr 2; omega)), by rw [Nat.pow_succ, hp]; omega, by omega, (by first | rfl | trivial | (congr 1; omega) | (congr 2; omega))⟩
      case measure => simp only [intOf]; omega
    · have hh : halfN n = p := by rw [← hp]; exact halfN_pow n j h (by omega) (by omega) (by omega)

      clear hp
      go_wp2_with ((first | (with_reducible refine arm_on0 ?_) | (with_reducible refine arm_on (by with_unfolding_all rfl) ?_)); (first | fail))
      go_ret
      exact ⟨by rw [hh]; rfl, (by first | rfl | trivial | (congr 1; omega) | (congr 2; omega))⟩

set_option maxHeartbeats 400000 in
theorem ref43Half_any (n : Nat) (h : 2 ≤ n) (hn : n ≤ 1000000000) (w0 : World) :
    Calls Tryd.prog 117 #[.int .i64 (n : Int)] w0 fun e w' => e = .returned (.int .i64 (halfN n)) ∧ w0 = w' := by
  go_enter Tryd.func117, Tryd.ntmps117
  go_wp2_with ((first | (with_reducible refine arm_on0 ?_) | (with_reducible refine arm_on (by with_unfolding_all rfl) ?_)); (first | fail))
  go_loopw [3] (fun k wr => ∃ (p j : Nat), k = .int .i64 (p : Int) ∧ 2 ^ j = p ∧ p < n ∧ wr = w0) (fun k _ => n - (intOf k).toNat)
  case atStart => exact ⟨1, 0, rfl, rfl, by omega, rfl⟩
  case round =>
    obtain ⟨p, j, rfl, hp, hlt, rfl⟩ := hrel
    have e1 : IntKind.i64.wrap (2 * (p : Int)) = 2 * (p : Int) := by rw [IntKind.wrap_i64]; omega
    have e2 : IntKind.i64.wrap ((p : Int) * 2) = (p : Int) * 2 := by rw [IntKind.wrap_i64]; omega
    have h0 : 0 < p := by rw [← hp]; exact Nat.two_pow_pos j
    by_cases hlt2 : 2 * p < n
    · go_wp2_with ((first | (with_reducible refine arm_on0 ?_) | (with_reducible refine arm_on (by with_unfolding_all rfl) ?_)); (first | fail))
      go_roundw
      case rel => exact ⟨2 * p, j + 1, (by first | rfl | trivial | (congr 1; omega) | (congr 2; omega)), by rw [Nat.pow_succ, hp]; omega, by omega, (by first | rfl | trivial | (congr 1; omega) | (congr 2; omega))⟩
      case measure => simp only [intOf]; omega
    · have hh : halfN n = p := by rw [← hp]; exact halfN_pow n j h (by omega) (by omega) (by omega)

      clear hp
      go_wp2_with ((first | (with_reducible refine arm_on0 ?_) | (with_reducible refine arm_on (by with_unfolding_all rfl) ?_)); (first | fail))
      go_ret
      exact ⟨by rw [hh]; rfl, (by first | rfl | trivial | (congr 1; omega) | (congr 2; omega))⟩
end
end Go.Proofs.YtelnilllleempaaDoor
