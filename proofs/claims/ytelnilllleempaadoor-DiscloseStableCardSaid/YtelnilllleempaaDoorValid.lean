/- tree.valid. -/
import Derived.Test.YtelnilllleempaaDoorDig2
import Derived.Test.YtelnilllleempaaDoorLeaf
namespace Go.Proofs.YtelnilllleempaaDoor
set_option linter.all false
open Go Go.RowKit

def okNode (x : Node) : Prop := 0 ≤ x.c ∧ x.c ≤ 1073741824 ∧ 0 ≤ x.p ∧ x.p ≤ 12 * x.c
instance (x : Node) : Decidable (okNode x) := by unfold okNode; infer_instance
def sumC (l : List Node) : Int := (l.map (·.c)).sum
def validN (l : List Node) : Prop := (∀ x ∈ l, okNode x) ∧ sumC l ≤ 1073741824
instance (l : List Node) : Decidable (validN l) := by unfold validN; infer_instance

@[simp] theorem nsV_length (l : List Node) : (nsV l).length = l.length * 34 := flatMap_len ncells 34 ncells_length l
theorem nsV_drop (l : List Node) (i : Nat) : (nsV l).drop (i * 34) = nsV (l.drop i) := flatMap_drop ncells 34 ncells_length l i
theorem nsV_take (l : List Node) (i : Nat) : (nsV l).take (i * 34) = nsV (l.take i) := flatMap_take ncells 34 ncells_length l i
theorem Sl.lenN {w : World} {A : Option Addr} {n c : Nat} {l : List Node} (h : SlN w A n c l) : l.length = n := by
  have := h.len; rw [nsV_length] at this; omega
theorem nsV_at {w : World} {b o : Nat} {l : List Node} (h : w.rangeAt b o (nsV l)) (i : Nat) (hi : i < l.length) : w.rangeAt b (o + i * 34) (ncells (l.getD i zeroNode)) := by
  have h1 := rangeAt_take (rangeAt_drop h (i * 34)) (1 * 34)
  rw [nsV_drop, nsV_take] at h1
  have : (l.drop i).take 1 = [l.getD i zeroNode] := by
    rw [List.drop_eq_getElem_cons hi, List.take_succ_cons, List.take_zero, List.getD_eq_getElem?_getD, List.getElem?_eq_getElem hi]; rfl
  rw [this] at h1
  simpa [nsV] using h1

theorem ncells_32 (x : Node) : (ncells x)[32]? = some (.int .i64 x.c) := by
  have : (dcells x.d).length = 32 := dcells_length _
  simp [ncells, List.getElem?_append_right, this]
theorem ncells_33 (x : Node) : (ncells x)[33]? = some (.int .i64 x.p) := by
  have : (dcells x.d).length = 32 := dcells_length _
  simp [ncells, List.getElem?_append_right, this]

theorem sumC_take_succ (l : List Node) (j : Nat) (h : j < l.length) : sumC (l.take (j + 1)) = sumC (l.take j) + (l.getD j zeroNode).c := by
  rw [List.take_succ_eq_append_getElem h, List.getD_eq_getElem?_getD, List.getElem?_eq_getElem h]
  simp only [sumC, List.map_append, List.sum_append]
  simp

set_option maxRecDepth 20000 in
set_option maxHeartbeats 3200000 in
theorem valid_any (A : Option Addr) (n c : Nat) (l : List Node) (w0 : World) (h : SlN w0 A n c l) (hn : n ≤ 100000) :
    Calls Tryd.prog 82 #[.slice A n c] w0 (RetP w0 (.bool (decide (validN l)))) := by
  have hM := Mem.refl w0 []
  have hl := h.lenN
  go_enter Tryd.func82, Tryd.ntmps82
  go_wp2_with ((first | (with_reducible refine arm_on0 ?_) | (with_reducible refine arm_on (by with_unfolding_all rfl) ?_)); (first | fail))
  go_loopw [3, 8] (fun s i wr => ∃ (j : Nat), j ≤ n ∧ i = .int .i64 j ∧ s = .int .i64 (sumC (l.take j)) ∧ (∀ m, m < j → okNode (l.getD m zeroNode)) ∧ 0 ≤ sumC (l.take j) ∧ sumC (l.take j) ≤ 1073741824 * j ∧ Mem w0 [] [] wr) (fun _ i _ => n - (intOf i).toNat)
  case atStart => exact ⟨0, by omega, (by first | rfl | trivial | (congr 1; omega) | (congr 2; omega)), (by first | rfl | trivial | (congr 1; omega) | (congr 2; omega)), fun m hm => absurd hm (by omega), by simp [sumC], by simp [sumC], hM⟩
  case round =>
    clear hM
    obtain ⟨j, hj, rfl, rfl, hok, hs0, hs1, hM⟩ := hrel
    by_cases hjn : j < n
    · obtain ⟨b0, o, rfl, hbl, hr⟩ := h.blk (by omega) (by omega)
      have hx := nsV_at hr j (by omega)
      have hsum := sumC_take_succ l j (by omega)
      have hbad : ¬ okNode (l.getD j zeroNode) → ¬ validN l := fun hb hv => hb (hv.1 _ (by
        rw [List.getD_eq_getElem?_getD, List.getElem?_eq_getElem (by omega)]; exact List.getElem_mem _))
      generalize hxe : l.getD j zeroNode = x at hx hsum hbad
      have e1 : ∀ c : Int, 0 ≤ c → c ≤ 1073741824 → IntKind.i64.wrap (12 * c) = 12 * c := fun c h1 h2 => by rw [IntKind.wrap_i64]; omega
      by_cases h1 : x.c < 0
      · go_wp2_with ((first | (with_reducible refine arm_on0 ?_) | (with_reducible refine arm_on (by with_unfolding_all rfl) ?_)); (first | (((with_reducible refine arm_loadNR (by simp only [evl]; first | done | with_reducible rfl) (hM.old hx) (by first | (simp; done) | with_unfolding_all rfl) ?_); (try simp only [nrm]))) | (((with_reducible refine arm_alloc hM ?_); clear hM; intro nb w hb hM; (try simp only [nrm]))) | (((with_reducible refine arm_storeW hM (by simp only [evl]; first | done | with_reducible rfl) (by simp only [evl, dV_cells, nV_cells, lV_cells, cV_cells, cells_agg, cells_int, cells_bool, cells_slice, cells_ptr, cells_func, cells_str, cells_byteV, cells_wV, List.toList_toArray]; first | done | with_reducible rfl) (by simp) (by first | exact dcells_one _ | exact stV_one _ | exact shcells_one _ | exact mtcells_one _ | exact tcells_one _ | exact rcells_one _ | exact ncells_one _ | exact lcells_one _ | exact ccells_one _ | exact bytesV_one _ | exact ivc_one _ | (simp [Value.oneCell']; done)) (by (repeat (first | exact Upd.head _ | apply Upd.tail | apply Upd.app)); first | done | fail) (by simp) ?_); clear hM; intro w hM; (try simp only [nrm]))) | (((with_reducible refine arm_load1 hM (by simp only [evl]; first | done | with_reducible rfl) (by (repeat (first | exact mHd | apply mTl | apply mAp)); first | done | fail) (by exact (ncells_32 x)) ?_); (try simp only [nrm]))) | (((with_reducible refine arm_load1 hM (by simp only [evl]; first | done | with_reducible rfl) (by (repeat (first | exact mHd | apply mTl | apply mAp)); first | done | fail) (by exact (ncells_33 x)) ?_); (try simp only [nrm]))) | ((with_reducible refine arm_cmpB (by with_unfolding_all simp) (by simp only [evl]; first | done | with_reducible rfl) (by simp only [evl]; first | done | with_reducible rfl) (by with_unfolding_all first | exact decide_eq_false (by omega) | exact decide_eq_true (by omega) | exact beq_false_of_ne (by omega)) ?_); (try simp only [nrm]))))
        go_ret; exact ⟨by rw [decide_eq_false (hbad (by unfold okNode; omega))]; rfl, hM.below⟩
      by_cases h2 : 1073741824 < x.c
      · go_wp2_with ((first | (with_reducible refine arm_on0 ?_) | (with_reducible refine arm_on (by with_unfolding_all rfl) ?_)); (first | (((with_reducible refine arm_loadNR (by simp only [evl]; first | done | with_reducible rfl) (hM.old hx) (by first | (simp; done) | with_unfolding_all rfl) ?_); (try simp only [nrm]))) | (((with_reducible refine arm_alloc hM ?_); clear hM; intro nb w hb hM; (try simp only [nrm]))) | (((with_reducible refine arm_storeW hM (by simp only [evl]; first | done | with_reducible rfl) (by simp only [evl, dV_cells, nV_cells, lV_cells, cV_cells, cells_agg, cells_int, cells_bool, cells_slice, cells_ptr, cells_func, cells_str, cells_byteV, cells_wV, List.toList_toArray]; first | done | with_reducible rfl) (by simp) (by first | exact dcells_one _ | exact stV_one _ | exact shcells_one _ | exact mtcells_one _ | exact tcells_one _ | exact rcells_one _ | exact ncells_one _ | exact lcells_one _ | exact ccells_one _ | exact bytesV_one _ | exact ivc_one _ | (simp [Value.oneCell']; done)) (by (repeat (first | exact Upd.head _ | apply Upd.tail | apply Upd.app)); first | done | fail) (by simp) ?_); clear hM; intro w hM; (try simp only [nrm]))) | (((with_reducible refine arm_load1 hM (by simp only [evl]; first | done | with_reducible rfl) (by (repeat (first | exact mHd | apply mTl | apply mAp)); first | done | fail) (by exact (ncells_32 x)) ?_); (try simp only [nrm]))) | (((with_reducible refine arm_load1 hM (by simp only [evl]; first | done | with_reducible rfl) (by (repeat (first | exact mHd | apply mTl | apply mAp)); first | done | fail) (by exact (ncells_33 x)) ?_); (try simp only [nrm]))) | ((with_reducible refine arm_cmpB (by with_unfolding_all simp) (by simp only [evl]; first | done | with_reducible rfl) (by simp only [evl]; first | done | with_reducible rfl) (by with_unfolding_all first | exact decide_eq_false (by omega) | exact decide_eq_true (by omega) | exact beq_false_of_ne (by omega)) ?_); (try simp only [nrm]))))
        go_ret; exact ⟨by rw [decide_eq_false (hbad (by unfold okNode; omega))]; rfl, hM.below⟩
      by_cases h3 : x.p < 0
      · go_wp2_with ((first | (with_reducible refine arm_on0 ?_) | (with_reducible refine arm_on (by with_unfolding_all rfl) ?_)); (first | (((with_reducible refine arm_loadNR (by simp only [evl]; first | done | with_reducible rfl) (hM.old hx) (by first | (simp; done) | with_unfolding_all rfl) ?_); (try simp only [nrm]))) | (((with_reducible refine arm_alloc hM ?_); clear hM; intro nb w hb hM; (try simp only [nrm]))) | (((with_reducible refine arm_storeW hM (by simp only [evl]; first | done | with_reducible rfl) (by simp only [evl, dV_cells, nV_cells, lV_cells, cV_cells, cells_agg, cells_int, cells_bool, cells_slice, cells_ptr, cells_func, cells_str, cells_byteV, cells_wV, List.toList_toArray]; first | done | with_reducible rfl) (by simp) (by first | exact dcells_one _ | exact stV_one _ | exact shcells_one _ | exact mtcells_one _ | exact tcells_one _ | exact rcells_one _ | exact ncells_one _ | exact lcells_one _ | exact ccells_one _ | exact bytesV_one _ | exact ivc_one _ | (simp [Value.oneCell']; done)) (by (repeat (first | exact Upd.head _ | apply Upd.tail | apply Upd.app)); first | done | fail) (by simp) ?_); clear hM; intro w hM; (try simp only [nrm]))) | (((with_reducible refine arm_load1 hM (by simp only [evl]; first | done | with_reducible rfl) (by (repeat (first | exact mHd | apply mTl | apply mAp)); first | done | fail) (by exact (ncells_32 x)) ?_); (try simp only [nrm]))) | (((with_reducible refine arm_load1 hM (by simp only [evl]; first | done | with_reducible rfl) (by (repeat (first | exact mHd | apply mTl | apply mAp)); first | done | fail) (by exact (ncells_33 x)) ?_); (try simp only [nrm]))) | ((with_reducible refine arm_cmpB (by with_unfolding_all simp) (by simp only [evl]; first | done | with_reducible rfl) (by simp only [evl]; first | done | with_reducible rfl) (by with_unfolding_all first | exact decide_eq_false (by omega) | exact decide_eq_true (by omega) | exact beq_false_of_ne (by omega)) ?_); (try simp only [nrm]))))
        go_ret; exact ⟨by rw [decide_eq_false (hbad (by unfold okNode; omega))]; rfl, hM.below⟩
      have e12 := e1 x.c (by omega) (by omega)
      by_cases h4 : 12 * x.c < x.p
      · go_wp2_with ((first | (with_reducible refine arm_on0 ?_) | (with_reducible refine arm_on (by with_unfolding_all rfl) ?_)); (first | (((with_reducible refine arm_loadNR (by simp only [evl]; first | done | with_reducible rfl) (hM.old hx) (by first | (simp; done) | with_unfolding_all rfl) ?_); (try simp only [nrm]))) | (((with_reducible refine arm_alloc hM ?_); clear hM; intro nb w hb hM; (try simp only [nrm]))) | (((with_reducible refine arm_storeW hM (by simp only [evl]; first | done | with_reducible rfl) (by simp only [evl, dV_cells, nV_cells, lV_cells, cV_cells, cells_agg, cells_int, cells_bool, cells_slice, cells_ptr, cells_func, cells_str, cells_byteV, cells_wV, List.toList_toArray]; first | done | with_reducible rfl) (by simp) (by first | exact dcells_one _ | exact stV_one _ | exact shcells_one _ | exact mtcells_one _ | exact tcells_one _ | exact rcells_one _ | exact ncells_one _ | exact lcells_one _ | exact ccells_one _ | exact bytesV_one _ | exact ivc_one _ | (simp [Value.oneCell']; done)) (by (repeat (first | exact Upd.head _ | apply Upd.tail | apply Upd.app)); first | done | fail) (by simp) ?_); clear hM; intro w hM; (try simp only [nrm]))) | (((with_reducible refine arm_load1 hM (by simp only [evl]; first | done | with_reducible rfl) (by (repeat (first | exact mHd | apply mTl | apply mAp)); first | done | fail) (by exact (ncells_32 x)) ?_); (try simp only [nrm]))) | (((with_reducible refine arm_load1 hM (by simp only [evl]; first | done | with_reducible rfl) (by (repeat (first | exact mHd | apply mTl | apply mAp)); first | done | fail) (by exact (ncells_33 x)) ?_); (try simp only [nrm]))) | ((with_reducible refine arm_cmpB (by with_unfolding_all simp) (by simp only [evl]; first | done | with_reducible rfl) (by simp only [evl]; first | done | with_reducible rfl) (by with_unfolding_all first | exact decide_eq_false (by omega) | exact decide_eq_true (by omega) | exact beq_false_of_ne (by omega)) ?_); (try simp only [nrm]))))
        go_ret; exact ⟨by rw [decide_eq_false (hbad (by unfold okNode; omega))]; rfl, hM.below⟩
      have e3 : IntKind.i64.wrap (sumC (l.take j) + x.c) = sumC (l.take j) + x.c := by rw [IntKind.wrap_i64]; omega
      go_wp2_with ((first | (with_reducible refine arm_on0 ?_) | (with_reducible refine arm_on (by with_unfolding_all rfl) ?_)); (first | (((with_reducible refine arm_loadNR (by simp only [evl]; first | done | with_reducible rfl) (hM.old hx) (by first | (simp; done) | with_unfolding_all rfl) ?_); (try simp only [nrm]))) | (((with_reducible refine arm_alloc hM ?_); clear hM; intro nb w hb hM; (try simp only [nrm]))) | (((with_reducible refine arm_storeW hM (by simp only [evl]; first | done | with_reducible rfl) (by simp only [evl, dV_cells, nV_cells, lV_cells, cV_cells, cells_agg, cells_int, cells_bool, cells_slice, cells_ptr, cells_func, cells_str, cells_byteV, cells_wV, List.toList_toArray]; first | done | with_reducible rfl) (by simp) (by first | exact dcells_one _ | exact stV_one _ | exact shcells_one _ | exact mtcells_one _ | exact tcells_one _ | exact rcells_one _ | exact ncells_one _ | exact lcells_one _ | exact ccells_one _ | exact bytesV_one _ | exact ivc_one _ | (simp [Value.oneCell']; done)) (by (repeat (first | exact Upd.head _ | apply Upd.tail | apply Upd.app)); first | done | fail) (by simp) ?_); clear hM; intro w hM; (try simp only [nrm]))) | (((with_reducible refine arm_load1 hM (by simp only [evl]; first | done | with_reducible rfl) (by (repeat (first | exact mHd | apply mTl | apply mAp)); first | done | fail) (by exact (ncells_32 x)) ?_); (try simp only [nrm]))) | (((with_reducible refine arm_load1 hM (by simp only [evl]; first | done | with_reducible rfl) (by (repeat (first | exact mHd | apply mTl | apply mAp)); first | done | fail) (by exact (ncells_33 x)) ?_); (try simp only [nrm]))) | ((with_reducible refine arm_cmpB (by with_unfolding_all simp) (by simp only [evl]; first | done | with_reducible rfl) (by simp only [evl]; first | done | with_reducible rfl) (by with_unfolding_all first | exact decide_eq_false (by omega) | exact decide_eq_true (by omega) | exact beq_false_of_ne (by omega)) ?_); (try simp only [nrm]))))
      go_roundw
      case rel => exact ⟨j + 1, by omega, (by first | rfl | trivial | (congr 1; omega) | (congr 2; omega)), by rw [hsum], fun m hm => by
        rcases Nat.lt_or_ge m j with h | h
        · exact hok m h
        · have : m = j := by omega
          subst this; rw [hxe]; unfold okNode; omega, by rw [hsum]; omega, by rw [hsum]; omega, hM.drop1⟩
      case measure => simp only [intOf]; omega
    · have hjn : j = n := by omega
      subst hjn
      have htk : l.take j = l := List.take_of_length_le (by omega)
      rw [htk] at *
      have hv : validN l ↔ sumC l ≤ 1073741824 := ⟨fun h => h.2, fun h => ⟨fun x hx => by
        obtain ⟨m, hm, rfl⟩ := List.mem_iff_getElem.1 hx
        have := hok m (by omega)
        rwa [List.getD_eq_getElem?_getD, List.getElem?_eq_getElem hm] at this, h⟩⟩
      go_wp2_with ((first | (with_reducible refine arm_on0 ?_) | (with_reducible refine arm_on (by with_unfolding_all rfl) ?_)); (first | fail))
      go_ret
      exact ⟨by first | rfl | (simp [hv]; done), hM.below⟩
end Go.Proofs.YtelnilllleempaaDoor
