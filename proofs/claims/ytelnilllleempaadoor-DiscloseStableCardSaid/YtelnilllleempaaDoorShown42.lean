/- DiscloseShown, walked. -/
import Derived.Test.YtelnilllleempaaDoorSane42
import Derived.Test.YtelnilllleempaaDoorSlice
namespace Go.Proofs.YtelnilllleempaaDoor
set_option linter.all false
open Go Go.RowKit

theorem Own.slIn {w0 w : World} {X : List Nat} {hs ho : List Ent} {e : TypeId} {size : Nat} {A : Option Addr} {n c : Nat} {xs : List Value} (h : Own e size (.slice A n c) n xs ho) (hM : Mem w0 X hs w) (hs' : ∀ e ∈ ho, e ∈ hs) : Sl w A n c size xs := by
  rcases h.cases' with ⟨h1, h2, h3, _⟩ | ⟨g, cap, tl, h1, h2, h3, h4, _, h5⟩
  · cases h1; subst h3; exact Sl.nil w
  · cases h1
    subst h5
    exact hM.sl_ent (b := g) (T := e) (cs := xs ++ tl) (hs' _ (by simp)) 0 (by rw [List.drop_zero, ← h4, List.take_left]) h4 h2 h3

set_option maxRecDepth 20000 in
set_option maxHeartbeats 6400000 in
theorem shown42_any (hsane : ∀ w, Glo w → Calls Tryd.prog 24 #[] w (RetP w (.bool true))) (t : Trn) (L : List Line) (C : List Claim) (w0 : World) (hG : Glo w0) (hA : SlL w0 t.A t.n t.c L) (hB : SlC w0 t.B t.m t.d C) :
    Calls Tryd.prog 5 #[tV t] w0 (RetP w0 (.bool true)) := by
  have hM := Mem.refl w0 []
  by_cases hf : ¬ (t.n ≤ 12 ∧ t.m ≤ 12)
  · have hd := decide_eq_false hf
    go_enter Tryd.func5, Tryd.ntmps5
    go_wp2_with ((first | (with_reducible refine arm_on0 ?_) | (with_reducible refine arm_on (by with_unfolding_all rfl) ?_)); (first | (((with_reducible refine arm_box (T := 27) (vs := tcells t) hM (by with_unfolding_all rfl) ?_); clear hM; intro tb w hb hM; (try simp only [nrm]))) | (((with_reducible refine arm_callF hM (by simp only [evl]; first | done | with_reducible rfl) (by with_unfolding_all rfl) (hsane _ (hM.glo hG)) ?_); clear hM; intro w hM; (try simp only [nrm]))) | ((with_reducible refine arm_loadW hM (by simp only [evl]; first | done | with_reducible rfl) (by (repeat (first | exact mHd | apply mTl | apply mAp)); first | done | fail) (by first | (simp; done) | with_unfolding_all rfl) ?_); (try simp only [nrm])) | (((with_reducible refine arm_callF hM (by simp only [evl]; first | done | with_reducible rfl) (by with_unfolding_all rfl) (few42_any t _) ?_); clear hM; intro w hM; (try simp only [nrm])))))
    go_ret
    exact ⟨rfl, hM.below⟩
  replace hf := Classical.not_not.1 hf
  have hd := decide_eq_true hf
  obtain ⟨hn12, hm12⟩ := hf
  have hck := fun w hA hB => checkT_any t L C w hA hB (by omega) (by omega)
  have hrt := fun w hG hA hB => root42_any t L C w hG hA hB (by omega) (by omega)
  cases hT : okT t L C
  · rw [hT] at hck hrt
    simp only [errT, Bool.false_eq_true, if_false] at hck hrt
    go_enter Tryd.func5, Tryd.ntmps5
    go_wp2_with ((first | (with_reducible refine arm_on0 ?_) | (with_reducible refine arm_on (by with_unfolding_all rfl) ?_)); (first | (((with_reducible refine arm_box (T := 27) (vs := tcells t) hM (by with_unfolding_all rfl) ?_); clear hM; intro tb w hb hM; (try simp only [nrm]))) | (((with_reducible refine arm_alloc hM ?_); clear hM; intro rb w hb hM; (try simp only [nrm]))) | (((with_reducible refine arm_callF hM (by simp only [evl]; first | done | with_reducible rfl) (by with_unfolding_all rfl) (hsane _ (hM.glo hG)) ?_); clear hM; intro w hM; (try simp only [nrm]))) | ((with_reducible refine arm_loadW hM (by simp only [evl]; first | done | with_reducible rfl) (by (repeat (first | exact mHd | apply mTl | apply mAp)); first | done | fail) (by first | (simp; done) | with_unfolding_all rfl) ?_); (try simp only [nrm])) | (((with_reducible refine arm_callF hM (by simp only [evl]; first | done | with_reducible rfl) (by with_unfolding_all rfl) (few42_any t _) ?_); clear hM; intro w hM; (try simp only [nrm]))) | (((with_reducible refine arm_callF hM (by simp only [evl]; first | done | with_reducible rfl) (by with_unfolding_all rfl) (hrt _ (hM.glo hG) (hM.sl hA) (hM.sl hB)) ?_); clear hM; intro w hM; (try simp only [nrm]))) | (((with_reducible refine arm_callF hM (by simp only [evl]; first | done | with_reducible rfl) (by with_unfolding_all rfl) (hck _ (hM.sl hA) (hM.sl hB)) ?_); clear hM; intro w hM; (try simp only [nrm]))) | ((with_reducible refine arm_storeW hM (by simp only [evl]; first | done | with_reducible rfl) (by simp only [evl, dV_cells, nV_cells, lV_cells, cV_cells, cells_tV, cells_rV, cells_shV, cells_mtV, cells_agg, cells_int, cells_bool, cells_slice, List.toList_toArray]; first | done | with_reducible rfl) (by simp) (by first | exact dcells_one _ | exact stV_one _ | exact shcells_one _ | exact mtcells_one _ | exact tcells_one _ | exact rcells_one _ | exact ncells_one _ | exact lcells_one _ | exact ccells_one _ | exact bytesV_one _ | exact ivc_one _ | (simp [Value.oneCell']; done)) (by (repeat (first | exact Upd.head _ | apply Upd.tail | apply Upd.app)); first | done | fail) (by simp) ?_); clear hM; intro w hM; (try simp only [nrm]))))
    go_ret
    exact ⟨rfl, hM.below⟩
  · rw [hT] at hck hrt
    simp only [errT, if_true] at hck hrt
    have hallL := okT_allL t L C hT
    have hallC := okT_allC t L C hT
    have hnL := hA.lenL'
    have hnC := hB.lenC'
    go_enter Tryd.func5, Tryd.ntmps5
    go_wp2_with ((first | (with_reducible refine arm_on0 ?_) | (with_reducible refine arm_on (by with_unfolding_all rfl) ?_)); (first | (((with_reducible refine arm_box (T := 27) (vs := tcells t) hM (by with_unfolding_all rfl) ?_); clear hM; intro tb w hb hM; (try simp only [nrm]))) | (((with_reducible refine arm_alloc hM ?_); clear hM; intro rb w hb hM; (try simp only [nrm]))) | (((with_reducible refine arm_callF hM (by simp only [evl]; first | done | with_reducible rfl) (by with_unfolding_all rfl) (hsane _ (hM.glo hG)) ?_); clear hM; intro w hM; (try simp only [nrm]))) | (((with_reducible refine arm_load1 hM (by simp only [evl]; first | done | with_reducible rfl) (by (repeat (first | exact mHd | apply mTl | apply mAp)); first | done | fail) (by exact (show (tcells t)[4]? = some (.slice t.A t.n t.c) from rfl)) ?_); (try simp only [nrm]))) | ((with_reducible refine arm_loadW hM (by simp only [evl]; first | done | with_reducible rfl) (by (repeat (first | exact mHd | apply mTl | apply mAp)); first | done | fail) (by first | (simp; done) | with_unfolding_all rfl) ?_); (try simp only [nrm])) | (((with_reducible refine arm_callF hM (by simp only [evl]; first | done | with_reducible rfl) (by with_unfolding_all rfl) (few42_any t _) ?_); clear hM; intro w hM; (try simp only [nrm]))) | (((with_reducible refine arm_callF hM (by simp only [evl]; first | done | with_reducible rfl) (by with_unfolding_all rfl) (hrt _ (hM.glo hG) (hM.sl hA) (hM.sl hB)) ?_); clear hM; intro w hM; (try simp only [nrm]))) | ((with_reducible refine arm_storeW hM (by simp only [evl]; first | done | with_reducible rfl) (by simp only [evl, dV_cells, nV_cells, lV_cells, cV_cells, cells_tV, cells_rV, cells_shV, cells_mtV, cells_agg, cells_int, cells_bool, cells_slice, List.toList_toArray]; first | done | with_reducible rfl) (by simp) (by first | exact dcells_one _ | exact stV_one _ | exact shcells_one _ | exact mtcells_one _ | exact tcells_one _ | exact rcells_one _ | exact ncells_one _ | exact lcells_one _ | exact ccells_one _ | exact bytesV_one _ | exact ivc_one _ | (simp [Value.oneCell']; done)) (by (repeat (first | exact Upd.head _ | apply Upd.tail | apply Upd.app)); first | done | fail) (by simp) ?_); clear hM; intro w hM; (try simp only [nrm]))))
    generalize hR : rootT t.n t.m (treeD (leavesL t.salt L)) (treeD (leavesC t.salt C)) = R at hM
    have hRL : R.lines = t.n := by rw [← hR]; rfl
    have hRC : R.claims = t.m := by rw [← hR]; rfl
    have hRl : R.listed = treeD (leavesL t.salt L) := by rw [← hR]; rfl
    have hRc : R.claimed = treeD (leavesC t.salt C) := by rw [← hR]; rfl
    clear hR
    go_loopw [31] (fun i wr => ∃ (j : Nat), j ≤ t.n ∧ i = .int .i64 j ∧ Mem w0 [] [(rb, 43, rcells R), (tb, 27, tcells t)] wr) (fun i _ => t.n - (intOf i).toNat)
    case atStart => exact ⟨0, by omega, (by first | rfl | trivial | (congr 1; omega) | (congr 2; omega)), hM⟩
    case round =>
      clear hM
      obtain ⟨j, hj, rfl, hM⟩ := hrel
      by_cases hjn : j < t.n
      · obtain ⟨b0, o, hbo, hbl, hr⟩ := hA.blk (by omega) (by omega)
        have hx := lsV_at hr j (by omega)
        have hsh := fun w hG hA hB => showL_any t L C j w hG hA hB (by omega) (by omega) hT hjn
        have hv := verL_shown t.salt L hallL (by omega) j (by omega) t.n (by omega)
        have hver := fun (A' : Option Addr) (c' : Nat) w hG h => verifyEL_any R ⟨(j : Int), L.getD j zeroLine, saltL t.salt (L.getD j zeroLine), A', (pathD (leavesL t.salt L) j).length, c'⟩ (pathD (leavesL t.salt L) j) w hG h
        simp only [hRL, hRl, hv, errT, if_true] at hver
        generalize pathD (leavesL t.salt L) j = P at hsh hver
        generalize L.getD j zeroLine = x at hx hsh hver
        generalize saltL t.salt x = s at hsh hver
        simp only [hbo]
        go_wp2_with ((first | (with_reducible refine arm_on0 ?_) | (with_reducible refine arm_on (by with_unfolding_all rfl) ?_)); (first | (((with_reducible refine arm_loadNR (by simp only [evl]; first | done | with_reducible rfl) (hM.old hx) (by first | (simp; done) | with_unfolding_all rfl) ?_); (try simp only [nrm]))) | (with_reducible refine arm_alloc (T := 63) hM ?_; clear hM; intro lb w hlb hM; (try simp only [nrm])) | (with_reducible refine arm_alloc (T := 66) hM ?_; clear hM; intro sb w hsb hM; (try simp only [nrm])) | (with_reducible refine arm_loadN (T := 63) (cs := shcells ⟨(j : Int), x, s, A', P.length, c'⟩) (xs := lcells x) hM (by simp only [evl]; first | done | with_reducible rfl) (by (repeat (first | exact mHd | apply mTl | apply mAp)); first | done | fail) (shc_line _) (by simp) ?_; (try simp only [nrm])) | (((with_reducible refine arm_load1 hM (by simp only [evl]; first | done | with_reducible rfl) (by (repeat (first | exact mHd | apply mTl | apply mAp)); first | done | fail) (by exact (shc_at ⟨(j : Int), x, s, A', P.length, c'⟩)) ?_); (try simp only [nrm]))) | ((with_reducible refine arm_loadW hM (by simp only [evl]; first | done | with_reducible rfl) (by (repeat (first | exact mHd | apply mTl | apply mAp)); first | done | fail) (by first | (simp; done) | with_unfolding_all rfl) ?_); (try simp only [nrm])) | ((with_reducible refine arm_callG (by simp only [evl]; first | done | with_reducible rfl) (by with_unfolding_all rfl) (hsh _ (hM.glo hG) (hM.sl hA) (hM.sl hB)) ?_; rintro e w ⟨A', c', ho, rfl, hO, hM1⟩; replace hM := hM.call hM1; clear hM1; (try simp only [nrm]))) | (((with_reducible refine wp_value (rx_neqB (B := false) (by simp only [evl]; first | done | with_reducible rfl) (by simp only [evl]; first | done | with_reducible rfl) (eq_line x x _) ((decide_eq_true rfl).trans Bool.not_false.symm)) ?_); (try simp only [nrm]))) | (((with_reducible refine arm_callF hM (by simp only [evl]; first | done | with_reducible rfl) (by with_unfolding_all rfl) (hver A' c' _ (hM.glo hG) (hO.slIn hM (fun e he => by (repeat (first | exact List.mem_append_left _ he | apply List.mem_cons_of_mem | apply List.mem_append_right)); first | done | fail))) ?_); clear hM; intro w hM; (try simp only [nrm]))) | ((with_reducible refine arm_storeW hM (by simp only [evl]; first | done | with_reducible rfl) (by simp only [evl, dV_cells, nV_cells, lV_cells, cV_cells, cells_tV, cells_rV, cells_shV, cells_mtV, cells_agg, cells_int, cells_bool, cells_slice, List.toList_toArray]; first | done | with_reducible rfl) (by simp) (by first | exact dcells_one _ | exact stV_one _ | exact shcells_one _ | exact mtcells_one _ | exact tcells_one _ | exact rcells_one _ | exact ncells_one _ | exact lcells_one _ | exact ccells_one _ | exact bytesV_one _ | exact ivc_one _ | (simp [Value.oneCell']; done)) (by (repeat (first | exact Upd.head _ | apply Upd.tail | apply Upd.app)); first | done | fail) (by simp) ?_); clear hM; intro w hM; (try simp only [nrm]))))
        go_roundw
        case rel => exact ⟨j + 1, by omega, (by first | rfl | trivial | (congr 1; omega) | (congr 2; omega)), hM.sub (by repeat (first | exact List.Sublist.refl _ | apply List.Sublist.cons | refine List.Sublist.trans ?_ (List.sublist_append_right _ _)))⟩
        case measure => simp [intOf]; omega
      · have hjn : j = t.n := by omega
        subst hjn
        go_wp2_with ((first | (with_reducible refine arm_on0 ?_) | (with_reducible refine arm_on (by with_unfolding_all rfl) ?_)); (first | (((with_reducible refine arm_load1 hM (by simp only [evl]; first | done | with_reducible rfl) (by (repeat (first | exact mHd | apply mTl | apply mAp)); first | done | fail) (by exact (show (tcells t)[5]? = some (.slice t.B t.m t.d) from rfl)) ?_); (try simp only [nrm])))))
        go_loopw [66] (fun i wr => ∃ (j : Nat), j ≤ t.m ∧ i = .int .i64 j ∧ Mem w0 [] [(rb, 43, rcells R), (tb, 27, tcells t)] wr) (fun i _ => t.m - (intOf i).toNat)
        case atStart => exact ⟨0, by omega, (by first | rfl | trivial | (congr 1; omega) | (congr 2; omega)), hM⟩
        case round =>
          clear hM
          obtain ⟨j, hj, rfl, hM⟩ := hrel
          by_cases hjn : j < t.m
          · obtain ⟨b0, o, hbo, hbl, hr⟩ := hB.blk (by omega) (by omega)
            have hx := csV_at hr j (by omega)
            have hsh := fun w hG hA hB => showC_any t L C j w hG hA hB (by omega) (by omega) hT hjn
            have hv := verC_shown t.salt C hallC (by omega) j (by omega) t.m (by omega)
            have hver := fun (A' : Option Addr) (c' : Nat) w hG h => verifyEC_any R ⟨(j : Int), C.getD j zeroClaim, saltC t.salt (C.getD j zeroClaim), A', (pathD (leavesC t.salt C) j).length, c'⟩ (pathD (leavesC t.salt C) j) w hG h
            simp only [hRC, hRc, hv, errT, if_true] at hver
            generalize pathD (leavesC t.salt C) j = P at hsh hver
            generalize C.getD j zeroClaim = x at hx hsh hver
            generalize saltC t.salt x = s at hsh hver
            simp only [hbo]
            go_wp2_with ((first | (with_reducible refine arm_on0 ?_) | (with_reducible refine arm_on (by with_unfolding_all rfl) ?_)); (first | (((with_reducible refine arm_loadNR (by simp only [evl]; first | done | with_reducible rfl) (hM.old hx) (by first | (simp; done) | with_unfolding_all rfl) ?_); (try simp only [nrm]))) | (with_reducible refine arm_alloc (T := 71) hM ?_; clear hM; intro lb w hlb hM; (try simp only [nrm])) | (with_reducible refine arm_alloc (T := 73) hM ?_; clear hM; intro sb w hsb hM; (try simp only [nrm])) | (with_reducible refine arm_loadN (T := 71) (cs := mtcells ⟨(j : Int), x, s, A', P.length, c'⟩) (xs := ccells x) hM (by simp only [evl]; first | done | with_reducible rfl) (by (repeat (first | exact mHd | apply mTl | apply mAp)); first | done | fail) (mtc_claim _) (by simp) ?_; (try simp only [nrm])) | (((with_reducible refine arm_load1 hM (by simp only [evl]; first | done | with_reducible rfl) (by (repeat (first | exact mHd | apply mTl | apply mAp)); first | done | fail) (by exact (mtc_at ⟨(j : Int), x, s, A', P.length, c'⟩)) ?_); (try simp only [nrm]))) | ((with_reducible refine arm_loadW hM (by simp only [evl]; first | done | with_reducible rfl) (by (repeat (first | exact mHd | apply mTl | apply mAp)); first | done | fail) (by first | (simp; done) | with_unfolding_all rfl) ?_); (try simp only [nrm])) | ((with_reducible refine arm_callG (by simp only [evl]; first | done | with_reducible rfl) (by with_unfolding_all rfl) (hsh _ (hM.glo hG) (hM.sl hA) (hM.sl hB)) ?_; rintro e w ⟨A', c', ho, rfl, hO, hM1⟩; replace hM := hM.call hM1; clear hM1; (try simp only [nrm]))) | (((with_reducible refine wp_value (rx_neqB (B := false) (by simp only [evl]; first | done | with_reducible rfl) (by simp only [evl]; first | done | with_reducible rfl) (eq_claim x x _) ((decide_eq_true rfl).trans Bool.not_false.symm)) ?_); (try simp only [nrm]))) | (((with_reducible refine arm_callF hM (by simp only [evl]; first | done | with_reducible rfl) (by with_unfolding_all rfl) (hver A' c' _ (hM.glo hG) (hO.slIn hM (fun e he => by (repeat (first | exact List.mem_append_left _ he | apply List.mem_cons_of_mem | apply List.mem_append_right)); first | done | fail))) ?_); clear hM; intro w hM; (try simp only [nrm]))) | ((with_reducible refine arm_storeW hM (by simp only [evl]; first | done | with_reducible rfl) (by simp only [evl, dV_cells, nV_cells, lV_cells, cV_cells, cells_tV, cells_rV, cells_shV, cells_mtV, cells_agg, cells_int, cells_bool, cells_slice, List.toList_toArray]; first | done | with_reducible rfl) (by simp) (by first | exact dcells_one _ | exact stV_one _ | exact shcells_one _ | exact mtcells_one _ | exact tcells_one _ | exact rcells_one _ | exact ncells_one _ | exact lcells_one _ | exact ccells_one _ | exact bytesV_one _ | exact ivc_one _ | (simp [Value.oneCell']; done)) (by (repeat (first | exact Upd.head _ | apply Upd.tail | apply Upd.app)); first | done | fail) (by simp) ?_); clear hM; intro w hM; (try simp only [nrm]))))
            go_roundw
            case rel => exact ⟨j + 1, by omega, (by first | rfl | trivial | (congr 1; omega) | (congr 2; omega)), hM.sub (by repeat (first | exact List.Sublist.refl _ | apply List.Sublist.cons | refine List.Sublist.trans ?_ (List.sublist_append_right _ _)))⟩
            case measure => simp [intOf]; omega
          · have hjn : j = t.m := by omega
            subst hjn
            go_wp2_with ((first | (with_reducible refine arm_on0 ?_) | (with_reducible refine arm_on (by with_unfolding_all rfl) ?_)); (first | ((with_reducible refine arm_loadW hM (by simp only [evl]; first | done | with_reducible rfl) (by (repeat (first | exact mHd | apply mTl | apply mAp)); first | done | fail) (by first | (simp; done) | with_unfolding_all rfl) ?_); (try simp only [nrm])) | (((with_reducible refine arm_callF hM (by simp only [evl]; first | done | with_reducible rfl) (by with_unfolding_all rfl) (hck _ (hM.sl hA) (hM.sl hB)) ?_); clear hM; intro w hM; (try simp only [nrm])))))
            go_ret
            exact ⟨rfl, hM.below⟩
end Go.Proofs.YtelnilllleempaaDoor
