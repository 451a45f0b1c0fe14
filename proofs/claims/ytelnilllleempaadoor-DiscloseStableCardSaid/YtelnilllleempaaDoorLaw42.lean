/- What the statements on layer 42 begin with. -/
import Derived.Test.YtelnilllleempaaDoorDiscHL
import Derived.Test.YtelnilllleempaaDoorDiscHC
import Derived.Test.YtelnilllleempaaDoorNodes
namespace Go.Proofs.YtelnilllleempaaDoor
set_option linter.all false
open Go Go.RowKit

theorem few42_any (t : Trn) (w0 : World) :
    Calls Tryd.prog 25 #[tV t] w0 (RetP w0 (.bool (decide (t.n ≤ 12 ∧ t.m ≤ 12)))) := by
  have hM := Mem.refl w0 []
  by_cases h1 : t.n ≤ 12
  · by_cases h2 : t.m ≤ 12
    · rw [decide_eq_true ⟨h1, h2⟩]
      go_enter Tryd.func25, Tryd.ntmps25
      go_wp2_with ((first | (with_reducible refine arm_on0 ?_) | (with_reducible refine arm_on (by with_unfolding_all rfl) ?_)); (first | (((with_reducible refine arm_box (T := 27) (vs := tcells t) hM (by with_unfolding_all rfl) ?_); clear hM; intro tb w hb hM; (try simp only [nrm]))) | ((with_reducible refine arm_load1 hM (by simp only [evl]; first | done | with_reducible rfl) (by (repeat (first | exact mHd | apply mTl | apply mAp)); first | done | fail) (by first | (with_unfolding_all rfl) | (simp; done)) ?_); (try simp only [nrm])) | ((with_reducible refine arm_cmpB (by with_unfolding_all simp) (by simp only [evl]; first | done | with_reducible rfl) (by simp only [evl]; first | done | with_reducible rfl) (by with_unfolding_all first | exact decide_eq_false (by omega) | exact decide_eq_true (by omega) | exact beq_false_of_ne (by omega)) ?_); (try simp only [nrm]))))
      go_ret
      exact ⟨rfl, hM.below⟩
    · rw [decide_eq_false (fun h => h2 h.2)]
      go_enter Tryd.func25, Tryd.ntmps25
      go_wp2_with ((first | (with_reducible refine arm_on0 ?_) | (with_reducible refine arm_on (by with_unfolding_all rfl) ?_)); (first | (((with_reducible refine arm_box (T := 27) (vs := tcells t) hM (by with_unfolding_all rfl) ?_); clear hM; intro tb w hb hM; (try simp only [nrm]))) | ((with_reducible refine arm_load1 hM (by simp only [evl]; first | done | with_reducible rfl) (by (repeat (first | exact mHd | apply mTl | apply mAp)); first | done | fail) (by first | (with_unfolding_all rfl) | (simp; done)) ?_); (try simp only [nrm])) | ((with_reducible refine arm_cmpB (by with_unfolding_all simp) (by simp only [evl]; first | done | with_reducible rfl) (by simp only [evl]; first | done | with_reducible rfl) (by with_unfolding_all first | exact decide_eq_false (by omega) | exact decide_eq_true (by omega) | exact beq_false_of_ne (by omega)) ?_); (try simp only [nrm]))))
      go_ret
      exact ⟨rfl, hM.below⟩
  · rw [decide_eq_false (fun h => h1 h.1)]
    go_enter Tryd.func25, Tryd.ntmps25
    go_wp2_with ((first | (with_reducible refine arm_on0 ?_) | (with_reducible refine arm_on (by with_unfolding_all rfl) ?_)); (first | (((with_reducible refine arm_box (T := 27) (vs := tcells t) hM (by with_unfolding_all rfl) ?_); clear hM; intro tb w hb hM; (try simp only [nrm]))) | ((with_reducible refine arm_load1 hM (by simp only [evl]; first | done | with_reducible rfl) (by (repeat (first | exact mHd | apply mTl | apply mAp)); first | done | fail) (by first | (with_unfolding_all rfl) | (simp; done)) ?_); (try simp only [nrm])) | ((with_reducible refine arm_cmpB (by with_unfolding_all simp) (by simp only [evl]; first | done | with_reducible rfl) (by simp only [evl]; first | done | with_reducible rfl) (by with_unfolding_all first | exact decide_eq_false (by omega) | exact decide_eq_true (by omega) | exact beq_false_of_ne (by omega)) ?_); (try simp only [nrm]))))
    go_ret
    exact ⟨rfl, hM.below⟩

/-- what the root says -/
def rootT (n m : Int) (a b : Dig) : Rt := ⟨0, 0, 0, 0, n, m, zeroNode, a, b, zeroDig, 0, 0⟩
theorem rx_buildRt {P : Program} {a : Act} {dst : Option Tmp} {ty : TypeId} {pos : String} {af : Array Edge} {g : Option (Nat × Bool)} {T : TypeId} [hS : StructOf P T (rcells zeroRt) [(0, 1), (1, 1), (2, 1), (3, 1), (4, 1), (5, 1), (6, 34), (40, 32), (72, 32), (104, 32), (136, 2)]] {x y z u : Operand} {n m : Int} {d e : Dig} (hx : a.eval x = .int .i64 n) (hy : a.eval y = .int .i64 m) (hz : a.eval z = .agg (dcells d).toArray) (hu : a.eval u = .agg (dcells e).toArray) (w : World) :
    (execOp a.eval { dst := dst, op := .build T #[(4, x), (5, y), (7, z), (8, u)], type := ty, pos := pos, after := af, guard := g }).run P w = .ok (.value (.agg (rcells (rootT n m d e)).toArray)) w := by
  refine rx_buildSome (R := rcells (rootT n m d e)) ?_ w
  simp only [List.map_cons, List.map_nil, hx, hy, hz, hu]
  refine .cons (o := 4) (s := 1) rfl rfl (by simp) ?_
  refine .cons (o := 5) (s := 1) rfl rfl (by rw [splice_length (by simp [cells_int])]; simp) ?_
  refine .cons (o := 40) (s := 32) rfl (by simp [cells_agg]) (by rw [splice_length (by rw [splice_length (by simp [cells_int])]; simp [cells_int]), splice_length (by simp [cells_int])]; simp) ?_
  refine .cons (o := 72) (s := 32) rfl (by simp [cells_agg]) (by rw [splice_length (by rw [splice_length (by rw [splice_length (by simp [cells_int])]; simp [cells_int]), splice_length (by simp [cells_int])]; simp [cells_agg]), splice_length (by rw [splice_length (by simp [cells_int])]; simp [cells_int]), splice_length (by simp [cells_int])]; simp) ?_
  have e1 : splice (splice (rcells zeroRt) 4 [.int .i64 n]) 5 [.int .i64 m] = rcells (rootT n m zeroDig zeroDig) := rfl
  have e2 : splice (rcells (rootT n m zeroDig zeroDig)) 40 (dcells d) = rcells (rootT n m d zeroDig) := by
    have := splice_mid ([.int .i64 0, .int .i64 0, .int .i64 0, .int .i64 0, .int .i64 n, .int .i64 m] ++ ncells zeroNode) (dcells zeroDig) (dcells zeroDig ++ (dcells zeroDig ++ [.int .i64 0, .int .i64 0])) (dcells d) 40 (by simp) (by simp)
    simp only [rcells, rootT, List.append_assoc] at this ⊢
    exact this
  have e3 : splice (rcells (rootT n m d zeroDig)) 72 (dcells e) = rcells (rootT n m d e) := by
    have := splice_mid ([.int .i64 0, .int .i64 0, .int .i64 0, .int .i64 0, .int .i64 n, .int .i64 m] ++ ncells zeroNode ++ dcells d) (dcells zeroDig) (dcells zeroDig ++ [.int .i64 0, .int .i64 0]) (dcells e) 72 (by simp) (by simp)
    simp only [rcells, rootT, List.append_assoc] at this ⊢
    exact this
  simp only [cells_int, cells_agg, List.toList_toArray]
  rw [e1, e2, e3]
  exact .nil _

set_option maxRecDepth 20000 in
set_option maxHeartbeats 6400000 in
theorem root42_any (t : Trn) (L : List Line) (C : List Claim) (w0 : World) (hG : Glo w0) (hA : SlL w0 t.A t.n t.c L) (hB : SlC w0 t.B t.m t.d C) (hn : t.n ≤ 4096) (hm : t.m ≤ 100000) :
    Calls Tryd.prog 26 #[tV t] w0 (RetP w0 (if okT t L C then .tuple #[rV (rootT t.n t.m (treeD (leavesL t.salt L)) (treeD (leavesC t.salt C))), .bool true] else .tuple #[rV (rootT t.n t.m zeroDig zeroDig), .bool false])) := by
  have hM := Mem.refl w0 []
  have h1 := fun w hG hA hB => listedL_any t L C w hG hA hB hn hm
  have h2 := fun w hG hA hB => listedC_any t L C w hG hA hB hn hm
  cases hT : okT t L C
  · rw [hT] at h1 h2
    simp only [Bool.false_eq_true, if_false] at h1 h2
    rw [if_neg (by simp)]
    go_enter Tryd.func26, Tryd.ntmps26
    go_wp2_with ((first | (with_reducible refine arm_on0 ?_) | (with_reducible refine arm_on (by with_unfolding_all rfl) ?_)); (first | (((with_reducible refine arm_box (T := 27) (vs := tcells t) hM (by with_unfolding_all rfl) ?_); clear hM; intro tb w hb hM; (try simp only [nrm]))) | (with_reducible refine arm_alloc (T := 43) hM ?_; clear hM; intro rb w hrb hM; (try simp only [nrm])) | (((with_reducible refine arm_alloc hM ?_); clear hM; intro db w hb hM; (try simp only [nrm]))) | (((with_reducible refine arm_load1 hM (by simp only [evl]; first | done | with_reducible rfl) (by (repeat (first | exact mHd | apply mTl | apply mAp)); first | done | fail) (by exact (show (tcells t)[4]? = some (.slice t.A t.n t.c) from rfl)) ?_); (try simp only [nrm]))) | (((with_reducible refine arm_load1 hM (by simp only [evl]; first | done | with_reducible rfl) (by (repeat (first | exact mHd | apply mTl | apply mAp)); first | done | fail) (by exact (show (tcells t)[5]? = some (.slice t.B t.m t.d) from rfl)) ?_); (try simp only [nrm]))) | ((with_reducible refine arm_loadW hM (by simp only [evl]; first | done | with_reducible rfl) (by (repeat (first | exact mHd | apply mTl | apply mAp)); first | done | fail) (by first | (simp; done) | with_unfolding_all rfl) ?_); (try simp only [nrm])) | (((with_reducible refine arm_call hM (h1 _ (hM.glo hG) (hM.sl hA) (hM.sl hB)) (by simp only [evl]; first | done | with_reducible rfl) (by with_unfolding_all rfl) ?_); clear hM; intro w hM; (try simp only [nrm]))) | (((with_reducible refine arm_call hM (h2 _ (hM.glo hG) (hM.sl hA) (hM.sl hB)) (by simp only [evl]; first | done | with_reducible rfl) (by with_unfolding_all rfl) ?_); clear hM; intro w hM; (try simp only [nrm]))) | (((with_reducible refine wp_value (rx_buildRt (by simp only [evl]; first | done | with_reducible rfl) (by simp only [evl]; first | done | with_reducible rfl) (by simp only [evl]; first | done | with_reducible rfl) (by simp only [evl]; first | done | with_reducible rfl) _) ?_); (try simp only [nrm]))) | ((with_reducible refine arm_storeW hM (by simp only [evl]; first | done | with_reducible rfl) (by simp only [evl, dV_cells, nV_cells, lV_cells, cV_cells, cells_agg, cells_int, cells_bool, cells_slice, cells_ptr, cells_func, cells_str, cells_byteV, cells_wV, List.toList_toArray]; first | done | with_reducible rfl) (by simp) (by first | exact dcells_one _ | exact stV_one _ | exact shcells_one _ | exact mtcells_one _ | exact tcells_one _ | exact rcells_one _ | exact ncells_one _ | exact lcells_one _ | exact ccells_one _ | exact bytesV_one _ | exact ivc_one _ | (simp [Value.oneCell']; done)) (by (repeat (first | exact Upd.head _ | apply Upd.tail | apply Upd.app)); first | done | fail) (by simp) ?_); clear hM; intro w hM; (try simp only [nrm]))))
    exact ret_cell2 rfl hM rfl (by (repeat (first | exact mHd | apply mTl | apply mAp)); first | done | fail) (by simp) rfl rfl ⟨rfl, hM.below⟩
  · rw [hT] at h1 h2
    simp only [if_true] at h1 h2
    rw [if_pos rfl]
    go_enter Tryd.func26, Tryd.ntmps26
    go_wp2_with ((first | (with_reducible refine arm_on0 ?_) | (with_reducible refine arm_on (by with_unfolding_all rfl) ?_)); (first | (((with_reducible refine arm_box (T := 27) (vs := tcells t) hM (by with_unfolding_all rfl) ?_); clear hM; intro tb w hb hM; (try simp only [nrm]))) | (with_reducible refine arm_alloc (T := 43) hM ?_; clear hM; intro rb w hrb hM; (try simp only [nrm])) | (((with_reducible refine arm_alloc hM ?_); clear hM; intro db w hb hM; (try simp only [nrm]))) | (((with_reducible refine arm_load1 hM (by simp only [evl]; first | done | with_reducible rfl) (by (repeat (first | exact mHd | apply mTl | apply mAp)); first | done | fail) (by exact (show (tcells t)[4]? = some (.slice t.A t.n t.c) from rfl)) ?_); (try simp only [nrm]))) | (((with_reducible refine arm_load1 hM (by simp only [evl]; first | done | with_reducible rfl) (by (repeat (first | exact mHd | apply mTl | apply mAp)); first | done | fail) (by exact (show (tcells t)[5]? = some (.slice t.B t.m t.d) from rfl)) ?_); (try simp only [nrm]))) | ((with_reducible refine arm_loadW hM (by simp only [evl]; first | done | with_reducible rfl) (by (repeat (first | exact mHd | apply mTl | apply mAp)); first | done | fail) (by first | (simp; done) | with_unfolding_all rfl) ?_); (try simp only [nrm])) | (((with_reducible refine arm_call hM (h1 _ (hM.glo hG) (hM.sl hA) (hM.sl hB)) (by simp only [evl]; first | done | with_reducible rfl) (by with_unfolding_all rfl) ?_); clear hM; intro w hM; (try simp only [nrm]))) | (((with_reducible refine arm_call hM (h2 _ (hM.glo hG) (hM.sl hA) (hM.sl hB)) (by simp only [evl]; first | done | with_reducible rfl) (by with_unfolding_all rfl) ?_); clear hM; intro w hM; (try simp only [nrm]))) | (((with_reducible refine wp_value (rx_buildRt (by simp only [evl]; first | done | with_reducible rfl) (by simp only [evl]; first | done | with_reducible rfl) (by simp only [evl]; first | done | with_reducible rfl) (by simp only [evl]; first | done | with_reducible rfl) _) ?_); (try simp only [nrm]))) | ((with_reducible refine arm_storeW hM (by simp only [evl]; first | done | with_reducible rfl) (by simp only [evl, dV_cells, nV_cells, lV_cells, cV_cells, cells_agg, cells_int, cells_bool, cells_slice, cells_ptr, cells_func, cells_str, cells_byteV, cells_wV, List.toList_toArray]; first | done | with_reducible rfl) (by simp) (by first | exact dcells_one _ | exact stV_one _ | exact shcells_one _ | exact mtcells_one _ | exact tcells_one _ | exact rcells_one _ | exact ncells_one _ | exact lcells_one _ | exact ccells_one _ | exact bytesV_one _ | exact ivc_one _ | (simp [Value.oneCell']; done)) (by (repeat (first | exact Upd.head _ | apply Upd.tail | apply Upd.app)); first | done | fail) (by simp) ?_); clear hM; intro w hM; (try simp only [nrm]))))
    exact ret_cell2 rfl hM rfl (by (repeat (first | exact mHd | apply mTl | apply mAp)); first | done | fail) (by simp) rfl rfl ⟨rfl, hM.below⟩
end Go.Proofs.YtelnilllleempaaDoor
