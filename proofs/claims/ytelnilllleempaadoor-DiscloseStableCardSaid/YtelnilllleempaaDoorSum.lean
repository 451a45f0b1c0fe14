/- The hash function, walked. -/
import Derived.Test.YtelnilllleempaaDoorAbsorb
namespace Go.Proofs.YtelnilllleempaaDoor
set_option linter.all false
open Go Go.RowKit
set_option maxRecDepth 20000 in
set_option maxHeartbeats 1600000 in
theorem sum_any (A : Option Addr) (n c : Nat) (l : List UInt8) (w0 : World) (hG : Glo w0) (h : SlB w0 A n c l) (hn : n ≤ 1000000000) :
    Calls Tryd.prog 73 #[.slice A n c] w0 (RetP w0 (dV (sha l))) := by
  have hM := Mem.refl w0 []
  have hsz := hG.size
  go_enter Tryd.func73, Tryd.ntmps73
  go_wp2_with (first | fail | ((first | (with_reducible refine arm_on0 ?_) | (with_reducible refine arm_on (by with_unfolding_all rfl) ?_)); (first | (((with_reducible refine arm_loadNR (by simp only [evl]; first | done | with_reducible rfl) (hM.old hG.start) (by first | (simp; done) | with_unfolding_all rfl) ?_); (try simp only [nrm]))) | ((with_reducible refine arm_storeW hM (by simp only [evl]; first | done | with_reducible rfl) (by simp only [evl, dV_cells, nV_cells, lV_cells, cV_cells, cells_agg, cells_int, cells_bool, cells_slice, cells_ptr, cells_func, cells_str, cells_byteV, cells_wV, List.toList_toArray]; first | done | with_reducible rfl) (by simp) (by first | exact dcells_one _ | exact stV_one _ | exact shcells_one _ | exact mtcells_one _ | exact tcells_one _ | exact rcells_one _ | exact ncells_one _ | exact lcells_one _ | exact ccells_one _ | exact bytesV_one _ | exact ivc_one _ | (simp [Value.oneCell']; done)) (by (repeat (first | exact Upd.head _ | apply Upd.tail | apply Upd.app)); first | done | fail) (by simp) ?_); clear hM; intro w hM; (try simp only [nrm])) | (with_reducible refine arm_alloc (T := 25) hM ?_; clear hM; intro d w hd hM; (try simp only [nrm])) | (with_reducible refine arm_alloc (T := 192) hM ?_; clear hM; intro s w hs hM; (try simp only [nrm])))))
  go_loopw [5] (fun v wr => ∃ (k : Nat) (A' : Option Addr) (n' c' : Nat), v = .slice A' n' c' ∧ SlB w0 A' n' c' (l.drop (64 * k)) ∧ 64 * k + n' = n ∧ Mem w0 [] [(s, 192, stV (blocks k l st0)), (d, 25, dcells zeroDig)] wr) (fun v _ => lenV v)
  case atStart => exact ⟨0, A, n, c, rfl, by simpa using h, by omega, hM⟩
  case round =>
    clear hM
    obtain ⟨k, A', n', c', rfl, hA, hkn, hM⟩ := hrel
    have hls := hA.lenB
    by_cases h64 : 64 ≤ n'
    · obtain ⟨b, o, rfl, hbl, hr⟩ := hA.blk (by omega) (by omega)
      have hc1 := hA.le
      have hc2 := hA.cap
      have hrt : wr.rangeAt b o (bytesV ((l.drop (64 * k)).take 64)) := by
        have := rangeAt_take (hM.old hr) 64
        simpa [bytesV, List.map_take] using this
      have hab := absorb_any s b o c' 192 (blocks k l st0) ((l.drop (64 * k)).take 64) wr (hM.has _ List.mem_cons_self) (by omega) (by omega) (hM.glo hG).numbers hrt (by simp at hls ⊢; omega) (by omega) hc2
      go_wp2_with ((first | (with_reducible refine arm_on0 ?_) | (with_reducible refine arm_on (by with_unfolding_all rfl) ?_)); (first | ((with_reducible refine arm_callX hM (hab) (by simp only [evl]; first | done | with_reducible rfl) (by with_unfolding_all rfl) (by (repeat (first | exact Upd.head _ | apply Upd.tail | apply Upd.app)); first | done | fail) ?_); clear hM; intro w hM; (try simp only [nrm]))))
      go_roundw
      case rel => exact ⟨k + 1, _, _, _, rfl, by
        have := hA.cut (p := c' = 64) 64 h64 Iff.rfl
        rw [Nat.mul_one] at this
        have e : bytesV (l.drop (64 * (k + 1))) = (bytesV (l.drop (64 * k))).drop 64 := by simp [bytesV, List.map_drop, Nat.mul_add]
        rw [SlB, e]; exact this, by omega, hM⟩
      case measure => simp only [lenV]; omega
    · have hk : k = n / 64 := by omega
      subst hk
      have hls2 : (l.drop (64 * (n / 64))).length = n' := hls
      have hl : l.length = n := h.lenB
      have hA' := hM.sl hA
      generalize hS : blocks (n / 64) l st0 = S1 at hM
      generalize hR : l.drop (64 * (n / 64)) = R at hA hA' hls2
      have htake : (bytesV R).take 64 = bytesV R := List.take_of_length_le (by simp; omega)
      subst hls2
      by_cases h55 : 55 < R.length
      · go_wp2_with ((first | (with_reducible refine arm_on0 ?_) | (with_reducible refine arm_on (by with_unfolding_all rfl) ?_)); (first | ((with_reducible refine arm_makeSlice1 (l := 64) (c := 128) hM (by simp only [evl]; first | done | with_reducible rfl) (by simp only [evl]; first | done | with_reducible rfl) (by omega) (by omega) (by omega) (by omega) (by unfold maxLen; omega) ?_); clear hM; intro e w hb hM; (try simp only [nrm])) | (with_reducible refine arm_copy hM (by simp only [evl]; first | done | with_reducible rfl) (by simp only [evl]; first | done | with_reducible rfl) (hM.sl hA) (bytesV_one _) htake (by (repeat (first | exact Upd.head _ | apply Upd.tail | apply Upd.app)); first | done | fail) (by simp; omega) rfl ?_; clear hM; intro w hM; (try simp only [nrm])) | ((with_reducible refine arm_store1 hM (by simp only [evl]; first | done | with_reducible rfl) (by simp only [evl, dV_cells, nV_cells, lV_cells, cV_cells, cells_agg, cells_int, cells_bool, cells_slice, cells_ptr, cells_func, cells_str, cells_byteV, cells_wV, List.toList_toArray]; first | done | with_reducible rfl) (by first | exact byteV_one _ | exact wV_one _ | with_unfolding_all rfl) (by (repeat (first | exact Upd.head _ | apply Upd.tail | apply Upd.app)); first | done | fail) ((show R.length < (splice (List.replicate 128 (Value.int .u8 0)) 0 (bytesV R)).length by rw [splice_length (by simp; omega)]; simp; omega)) (rfl) ?_); clear hM; intro w hM; (try simp only [nrm])) | ((with_reducible refine arm_callX hM (put_any e 120 8 8 5 _ (n * 8) (by omega) _ (hM.has _ List.mem_cons_self) (by rw [List.length_set, splice_length (by simp; omega)]; simp) (by omega) (by omega)) (by simp only [evl]; first | done | with_reducible rfl) (by with_unfolding_all rfl) (by (repeat (first | exact Upd.head _ | apply Upd.tail | apply Upd.app)); first | done | fail) ?_); clear hM; intro w hM; (try simp only [nrm]))))
        rw [tail_laid R n (by omega) 128 (by simp; omega)] at hM
        have htl := tailB_length R n (by omega)
        rw [if_pos (by omega)] at htl
        generalize hT : tailB R n = TB at hM htl
        go_loopw [6] (fun v wr => ∃ (k : Nat) (A' : Option Addr) (n' c' : Nat), v = .slice A' n' c' ∧ SlB wr A' n' c' (TB.drop (64 * k)) ∧ 64 * k + n' = 128 ∧ (∀ b o, A' = some ⟨b, o, none⟩ → b = e) ∧ Mem w0 [] [(e, 5, bytesV (TB ++ List.replicate (128 - 128) 0)), (s, 192, stV (blocks k TB S1)), (d, 25, dcells zeroDig)] wr) (fun v _ => lenV v)
        case atStart => exact ⟨0, _, _, _, rfl, hM.sl_ent List.mem_cons_self 0 (by simp [List.take_append, htl, List.take_of_length_le]) (by simp [htl]) (by omega) (by decide), by omega, fun b o e => by cases e; rfl, hM⟩
        case round =>
          clear hM
          obtain ⟨k, A', n', c', rfl, hB, hkn, hne, hM⟩ := hrel
          have hbl := hB.lenB
          by_cases h0 : 0 < n'
          · have h64 : 64 ≤ n' := by omega
            obtain ⟨b, o, rfl, hbl2, hr⟩ := hB.blk h0 (by omega)
            have hbe := hne b o rfl
            subst hbe
            have hc1 := hB.le
            have hc2 := hB.cap
            have hrt : wr.rangeAt b o (bytesV ((TB.drop (64 * k)).take 64)) := by
              have := rangeAt_take hr 64
              simpa [bytesV, List.map_take] using this
            have hnd := hM.nodup
            have hbs : b ≠ s := by
              simp at hnd; exact hnd.1.1
            have hab := absorb_any s b o c' 192 (blocks k TB S1) ((TB.drop (64 * k)).take 64) wr (hM.has _ (List.mem_cons_of_mem _ List.mem_cons_self)) (by omega) hbs (hM.glo hG).numbers hrt (by simp at hbl ⊢; omega) (by omega) hc2
            have hM0 := hM
            go_wp2_with ((first | (with_reducible refine arm_on0 ?_) | (with_reducible refine arm_on (by with_unfolding_all rfl) ?_)); (first | ((with_reducible refine arm_callX hM (hab) (by simp only [evl]; first | done | with_reducible rfl) (by with_unfolding_all rfl) (by (repeat (first | exact Upd.head _ | apply Upd.tail | apply Upd.app)); first | done | fail) ?_); clear hM; intro w hM; (try simp only [nrm]))))
            have hB' : Sl w (some ⟨b, o, none⟩) n' c' 1 (bytesV (TB.drop (64 * k))) := by
              refine ⟨hB.len, hB.le, hB.cap, fun _ => ⟨b, o, rfl, ?_⟩⟩
              have h1 := hM.has _ List.mem_cons_self
              have h2 := hM0.has _ List.mem_cons_self
              intro j v hv
              rw [HasE.cell h1, ← HasE.cell h2]
              exact hr j v hv
            go_roundw
            case rel => exact ⟨k + 1, _, _, _, rfl, by
              have := hB'.cut (p := c' = 64) 64 h64 Iff.rfl
              rw [Nat.mul_one] at this
              have e : bytesV (TB.drop (64 * (k + 1))) = (bytesV (TB.drop (64 * k))).drop 64 := by simp [bytesV, List.map_drop, Nat.mul_add]
              rw [SlB, e]; exact this, by omega, fun b' o' e => by
                split at e <;> (cases e; rfl), hM⟩
            case measure => simp only [lenV]; omega
          · have hk : k = 2 := by omega
            subst hk
            have hsha : shaSt l = blocks 2 TB S1 := by
              unfold shaSt
              rw [hl]
              simp only [hR, hT, hS]
              rw [if_pos (by omega)]
            rw [← hsha] at hM
            have hM := hM.drop1
            go_wp2_with ((first | (with_reducible refine arm_on0 ?_) | (with_reducible refine arm_on (by with_unfolding_all rfl) ?_)); (first | ((with_reducible refine arm_loadW hM (by simp only [evl]; first | done | with_reducible rfl) (by (repeat (first | exact mHd | apply mTl | apply mAp)); first | done | fail) (by first | (simp; done) | with_unfolding_all rfl) ?_); (try simp only [nrm]))))
            go_loopw [54] (fun i wr => ∃ (k : Nat), k ≤ 8 ∧ i = .int .i64 k ∧ Mem w0 [] [(s, 192, stV (shaSt l)), (d, 25, bytesV (outB ((shaSt l).l.take k) ++ List.replicate (32 - 4 * k) 0))] wr) (fun i _ => 8 - (intOf i).toNat)
            case atStart => exact ⟨0, by omega, (by first | rfl | trivial | (congr 1; omega) | (congr 2; omega)), hM⟩
            case round =>
              clear hM
              obtain ⟨k, hk, rfl, hM⟩ := hrel
              by_cases hk8 : k < 8
              · have hget := stV_get (shaSt l) k hk8
                have hstep := out_step (shaSt l) k hk8
                have hlen : (bytesV (outB ((shaSt l).l.take k) ++ List.replicate (32 - 4 * k) 0)).length = 32 := by simp [outB_length]; omega
                have hlt := ((shaSt l).l.getD k 0).isLt
                go_wp2_with ((first | (with_reducible refine arm_on0 ?_) | (with_reducible refine arm_on (by with_unfolding_all rfl) ?_)); (first | (with_reducible refine arm_indexA (n := 8) (by simp only [evl]; first | done | with_reducible rfl) (by simp only [evl]; first | done | with_reducible rfl) hget (by omega) ?_; (try simp only [nrm])) | ((with_reducible refine arm_conv32to64 (T2 := 168) (by simp only [evl]; first | done | with_reducible rfl) ?_); (try simp only [nrm])) | (with_reducible refine arm_sliceA (n := 32) (l := 4 * k) (h := 4 * k + 4) (by simp only [evl]; first | done | with_reducible rfl) (by simp only [evl]; first | done | with_reducible rfl) (by simp only [evl]; first | done | with_reducible rfl) (by omega) (by omega) (by omega) (by omega) (by omega) ?_; (try simp only [nrm]); simp only [Nat.zero_add, Nat.add_sub_cancel_left]) | ((with_reducible refine arm_callX hM (put_any d (4 * k) 4 (32 - 4 * k) 25 _ ((shaSt l).l.getD k 0).toNat (by omega) _ (hM.has _ (List.mem_cons_of_mem _ List.mem_cons_self)) (by omega) (by omega) (by omega)) (by simp only [evl]; first | done | with_reducible rfl) (by with_unfolding_all rfl) (by (repeat (first | exact Upd.head _ | apply Upd.tail | apply Upd.app)); first | done | fail) ?_); clear hM; intro w hM; (try simp only [nrm]))))
                rw [hstep] at hM
                go_roundw
                case rel => exact ⟨k + 1, by omega, (by first | rfl | trivial | (congr 1; omega) | (congr 2; omega)), hM⟩
                case measure => simp [intOf]; omega
              · have hk8 : k = 8 := by omega
                subst hk8
                have e32 : bytesV (outB ((shaSt l).l.take 8) ++ List.replicate (32 - 4 * 8) 0) = dcells (sha l) := by
                  rw [List.take_of_length_le (by simp)]; simp [dcells, sha]
                rw [e32] at hM
                go_wp2_with ((first | (with_reducible refine arm_on0 ?_) | (with_reducible refine arm_on (by with_unfolding_all rfl) ?_)); (first | ((with_reducible refine arm_loadW hM (by simp only [evl]; first | done | with_reducible rfl) (by (repeat (first | exact mHd | apply mTl | apply mAp)); first | done | fail) (by first | (simp; done) | with_unfolding_all rfl) ?_); (try simp only [nrm])) | ((with_reducible refine arm_storeW hM (by simp only [evl]; first | done | with_reducible rfl) (by simp only [evl, dV_cells, nV_cells, lV_cells, cV_cells, cells_agg, cells_int, cells_bool, cells_slice, cells_ptr, cells_func, cells_str, cells_byteV, cells_wV, List.toList_toArray]; first | done | with_reducible rfl) (by simp) (by first | exact dcells_one _ | exact stV_one _ | exact shcells_one _ | exact mtcells_one _ | exact tcells_one _ | exact rcells_one _ | exact ncells_one _ | exact lcells_one _ | exact ccells_one _ | exact bytesV_one _ | exact ivc_one _ | (simp [Value.oneCell']; done)) (by (repeat (first | exact Upd.head _ | apply Upd.tail | apply Upd.app)); first | done | fail) (by simp) ?_); clear hM; intro w hM; (try simp only [nrm]))))
                exact ret_cell rfl hM rfl (by (repeat (first | exact mHd | apply mTl | apply mAp)); first | done | fail) (by simp) rfl ⟨rfl, hM.below⟩
      · go_wp2_with ((first | (with_reducible refine arm_on0 ?_) | (with_reducible refine arm_on (by with_unfolding_all rfl) ?_)); (first | ((with_reducible refine arm_makeSlice1 (l := 64) (c := 128) hM (by simp only [evl]; first | done | with_reducible rfl) (by simp only [evl]; first | done | with_reducible rfl) (by omega) (by omega) (by omega) (by omega) (by unfold maxLen; omega) ?_); clear hM; intro e w hb hM; (try simp only [nrm])) | (with_reducible refine arm_copy hM (by simp only [evl]; first | done | with_reducible rfl) (by simp only [evl]; first | done | with_reducible rfl) (hM.sl hA) (bytesV_one _) htake (by (repeat (first | exact Upd.head _ | apply Upd.tail | apply Upd.app)); first | done | fail) (by simp; omega) rfl ?_; clear hM; intro w hM; (try simp only [nrm])) | ((with_reducible refine arm_store1 hM (by simp only [evl]; first | done | with_reducible rfl) (by simp only [evl, dV_cells, nV_cells, lV_cells, cV_cells, cells_agg, cells_int, cells_bool, cells_slice, cells_ptr, cells_func, cells_str, cells_byteV, cells_wV, List.toList_toArray]; first | done | with_reducible rfl) (by first | exact byteV_one _ | exact wV_one _ | with_unfolding_all rfl) (by (repeat (first | exact Upd.head _ | apply Upd.tail | apply Upd.app)); first | done | fail) ((show R.length < (splice (List.replicate 128 (Value.int .u8 0)) 0 (bytesV R)).length by rw [splice_length (by simp; omega)]; simp; omega)) (rfl) ?_); clear hM; intro w hM; (try simp only [nrm])) | ((with_reducible refine arm_callX hM (put_any e 56 8 72 5 _ (n * 8) (by omega) _ (hM.has _ List.mem_cons_self) (by rw [List.length_set, splice_length (by simp; omega)]; simp) (by omega) (by omega)) (by simp only [evl]; first | done | with_reducible rfl) (by with_unfolding_all rfl) (by (repeat (first | exact Upd.head _ | apply Upd.tail | apply Upd.app)); first | done | fail) ?_); clear hM; intro w hM; (try simp only [nrm]))))
        rw [tail_laid R n (by omega) 64 (by simp; omega)] at hM
        have htl := tailB_length R n (by omega)
        rw [if_neg (by omega)] at htl
        generalize hT : tailB R n = TB at hM htl
        go_loopw [6] (fun v wr => ∃ (k : Nat) (A' : Option Addr) (n' c' : Nat), v = .slice A' n' c' ∧ SlB wr A' n' c' (TB.drop (64 * k)) ∧ 64 * k + n' = 64 ∧ (∀ b o, A' = some ⟨b, o, none⟩ → b = e) ∧ Mem w0 [] [(e, 5, bytesV (TB ++ List.replicate (128 - 64) 0)), (s, 192, stV (blocks k TB S1)), (d, 25, dcells zeroDig)] wr) (fun v _ => lenV v)
        case atStart => exact ⟨0, _, _, _, rfl, hM.sl_ent List.mem_cons_self 0 (by simp [List.take_append, htl, List.take_of_length_le]) (by simp [htl]) (by omega) (by decide), by omega, fun b o e => by cases e; rfl, hM⟩
        case round =>
          clear hM
          obtain ⟨k, A', n', c', rfl, hB, hkn, hne, hM⟩ := hrel
          have hbl := hB.lenB
          by_cases h0 : 0 < n'
          · have h64 : 64 ≤ n' := by omega
            obtain ⟨b, o, rfl, hbl2, hr⟩ := hB.blk h0 (by omega)
            have hbe := hne b o rfl
            subst hbe
            have hc1 := hB.le
            have hc2 := hB.cap
            have hrt : wr.rangeAt b o (bytesV ((TB.drop (64 * k)).take 64)) := by
              have := rangeAt_take hr 64
              simpa [bytesV, List.map_take] using this
            have hnd := hM.nodup
            have hbs : b ≠ s := by
              simp at hnd; exact hnd.1.1
            have hab := absorb_any s b o c' 192 (blocks k TB S1) ((TB.drop (64 * k)).take 64) wr (hM.has _ (List.mem_cons_of_mem _ List.mem_cons_self)) (by omega) hbs (hM.glo hG).numbers hrt (by simp at hbl ⊢; omega) (by omega) hc2
            have hM0 := hM
            go_wp2_with ((first | (with_reducible refine arm_on0 ?_) | (with_reducible refine arm_on (by with_unfolding_all rfl) ?_)); (first | ((with_reducible refine arm_callX hM (hab) (by simp only [evl]; first | done | with_reducible rfl) (by with_unfolding_all rfl) (by (repeat (first | exact Upd.head _ | apply Upd.tail | apply Upd.app)); first | done | fail) ?_); clear hM; intro w hM; (try simp only [nrm]))))
            have hB' : Sl w (some ⟨b, o, none⟩) n' c' 1 (bytesV (TB.drop (64 * k))) := by
              refine ⟨hB.len, hB.le, hB.cap, fun _ => ⟨b, o, rfl, ?_⟩⟩
              have h1 := hM.has _ List.mem_cons_self
              have h2 := hM0.has _ List.mem_cons_self
              intro j v hv
              rw [HasE.cell h1, ← HasE.cell h2]
              exact hr j v hv
            go_roundw
            case rel => exact ⟨k + 1, _, _, _, rfl, by
              have := hB'.cut (p := c' = 64) 64 h64 Iff.rfl
              rw [Nat.mul_one] at this
              have e : bytesV (TB.drop (64 * (k + 1))) = (bytesV (TB.drop (64 * k))).drop 64 := by simp [bytesV, List.map_drop, Nat.mul_add]
              rw [SlB, e]; exact this, by omega, fun b' o' e => by
                split at e <;> (cases e; rfl), hM⟩
            case measure => simp only [lenV]; omega
          · have hk : k = 1 := by omega
            subst hk
            have hsha : shaSt l = blocks 1 TB S1 := by
              unfold shaSt
              rw [hl]
              simp only [hR, hT, hS]
              rw [if_neg (by omega)]
            rw [← hsha] at hM
            have hM := hM.drop1
            go_wp2_with ((first | (with_reducible refine arm_on0 ?_) | (with_reducible refine arm_on (by with_unfolding_all rfl) ?_)); (first | ((with_reducible refine arm_loadW hM (by simp only [evl]; first | done | with_reducible rfl) (by (repeat (first | exact mHd | apply mTl | apply mAp)); first | done | fail) (by first | (simp; done) | with_unfolding_all rfl) ?_); (try simp only [nrm]))))
            go_loopw [54] (fun i wr => ∃ (k : Nat), k ≤ 8 ∧ i = .int .i64 k ∧ Mem w0 [] [(s, 192, stV (shaSt l)), (d, 25, bytesV (outB ((shaSt l).l.take k) ++ List.replicate (32 - 4 * k) 0))] wr) (fun i _ => 8 - (intOf i).toNat)
            case atStart => exact ⟨0, by omega, (by first | rfl | trivial | (congr 1; omega) | (congr 2; omega)), hM⟩
            case round =>
              clear hM
              obtain ⟨k, hk, rfl, hM⟩ := hrel
              by_cases hk8 : k < 8
              · have hget := stV_get (shaSt l) k hk8
                have hstep := out_step (shaSt l) k hk8
                have hlen : (bytesV (outB ((shaSt l).l.take k) ++ List.replicate (32 - 4 * k) 0)).length = 32 := by simp [outB_length]; omega
                have hlt := ((shaSt l).l.getD k 0).isLt
                go_wp2_with ((first | (with_reducible refine arm_on0 ?_) | (with_reducible refine arm_on (by with_unfolding_all rfl) ?_)); (first | (with_reducible refine arm_indexA (n := 8) (by simp only [evl]; first | done | with_reducible rfl) (by simp only [evl]; first | done | with_reducible rfl) hget (by omega) ?_; (try simp only [nrm])) | ((with_reducible refine arm_conv32to64 (T2 := 168) (by simp only [evl]; first | done | with_reducible rfl) ?_); (try simp only [nrm])) | (with_reducible refine arm_sliceA (n := 32) (l := 4 * k) (h := 4 * k + 4) (by simp only [evl]; first | done | with_reducible rfl) (by simp only [evl]; first | done | with_reducible rfl) (by simp only [evl]; first | done | with_reducible rfl) (by omega) (by omega) (by omega) (by omega) (by omega) ?_; (try simp only [nrm]); simp only [Nat.zero_add, Nat.add_sub_cancel_left]) | ((with_reducible refine arm_callX hM (put_any d (4 * k) 4 (32 - 4 * k) 25 _ ((shaSt l).l.getD k 0).toNat (by omega) _ (hM.has _ (List.mem_cons_of_mem _ List.mem_cons_self)) (by omega) (by omega) (by omega)) (by simp only [evl]; first | done | with_reducible rfl) (by with_unfolding_all rfl) (by (repeat (first | exact Upd.head _ | apply Upd.tail | apply Upd.app)); first | done | fail) ?_); clear hM; intro w hM; (try simp only [nrm]))))
                rw [hstep] at hM
                go_roundw
                case rel => exact ⟨k + 1, by omega, (by first | rfl | trivial | (congr 1; omega) | (congr 2; omega)), hM⟩
                case measure => simp [intOf]; omega
              · have hk8 : k = 8 := by omega
                subst hk8
                have e32 : bytesV (outB ((shaSt l).l.take 8) ++ List.replicate (32 - 4 * 8) 0) = dcells (sha l) := by
                  rw [List.take_of_length_le (by simp)]; simp [dcells, sha]
                rw [e32] at hM
                go_wp2_with ((first | (with_reducible refine arm_on0 ?_) | (with_reducible refine arm_on (by with_unfolding_all rfl) ?_)); (first | ((with_reducible refine arm_loadW hM (by simp only [evl]; first | done | with_reducible rfl) (by (repeat (first | exact mHd | apply mTl | apply mAp)); first | done | fail) (by first | (simp; done) | with_unfolding_all rfl) ?_); (try simp only [nrm])) | ((with_reducible refine arm_storeW hM (by simp only [evl]; first | done | with_reducible rfl) (by simp only [evl, dV_cells, nV_cells, lV_cells, cV_cells, cells_agg, cells_int, cells_bool, cells_slice, cells_ptr, cells_func, cells_str, cells_byteV, cells_wV, List.toList_toArray]; first | done | with_reducible rfl) (by simp) (by first | exact dcells_one _ | exact stV_one _ | exact shcells_one _ | exact mtcells_one _ | exact tcells_one _ | exact rcells_one _ | exact ncells_one _ | exact lcells_one _ | exact ccells_one _ | exact bytesV_one _ | exact ivc_one _ | (simp [Value.oneCell']; done)) (by (repeat (first | exact Upd.head _ | apply Upd.tail | apply Upd.app)); first | done | fail) (by simp) ?_); clear hM; intro w hM; (try simp only [nrm]))))
                exact ret_cell rfl hM rfl (by (repeat (first | exact mHd | apply mTl | apply mAp)); first | done | fail) (by simp) rfl ⟨rfl, hM.below⟩
end Go.Proofs.YtelnilllleempaaDoor
