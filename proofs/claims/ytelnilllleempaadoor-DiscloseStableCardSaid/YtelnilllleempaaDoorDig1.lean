/- The digest's small functions, walked. -/
import Derived.Test.YtelnilllleempaaDoorTypes
import Derived.Test.YtelnilllleempaaDoorBits
import Derived.Test.YtelnilllleempaaDoorSha
namespace Go.Proofs.YtelnilllleempaaDoor
set_option linter.all false
open Go Go.RowKit
set_option maxHeartbeats 400000 in
theorem rot_any (x : Wd) (n : Nat) (k : Int) (hk : k = -(n : Int)) (h1 : 1 ≤ n) (h2 : n ≤ 31) (w : World) :
    Calls Tryd.prog 133 #[wV x, .int .i64 k] w fun e w' => e = .returned (wV (ror x n)) ∧ w = w' := by
  have e1 : bits .and .u64 (IntKind.u64.wrap k) 31 = ((32 - n : Nat) : Int) := by
    subst hk
    have : ∀ n : Nat, n < 32 → 1 ≤ n → bits .and .u64 (IntKind.u64.wrap (-(n : Int))) 31 = ((32 - n : Nat) : Int) := by decide +kernel
    exact this n (by omega) h1
  have e2 : IntKind.u64.wrap (32 - ((32 - n : Nat) : Int)) = (n : Int) := by rw [IntKind.wrap_u64]; omega
  clear hk
  go_enter Tryd.func133, Tryd.ntmps133
  go_wp2_with ((first | (with_reducible refine arm_on0 ?_) | (with_reducible refine arm_on (by with_unfolding_all rfl) ?_)); (first | ((with_reducible refine arm_shl32 (T := 190) (by simp only [evl]; first | done | with_reducible rfl) (by simp only [evl]; first | done | with_reducible rfl) rfl (by omega) ?_); (try simp only [nrm])) | ((with_reducible refine arm_shr32 (T := 190) (by simp only [evl]; first | done | with_reducible rfl) (by simp only [evl]; first | done | with_reducible rfl) rfl (by omega) ?_); (try simp only [nrm])) | ((with_reducible refine arm_or32 (T := 190) (by simp only [evl]; first | done | with_reducible rfl) (by simp only [evl]; first | done | with_reducible rfl) ?_); (try simp only [nrm])) | ((with_reducible refine arm_and32 (T := 190) (by simp only [evl]; first | done | with_reducible rfl) (by simp only [evl]; first | done | with_reducible rfl) ?_); (try simp only [nrm])) | ((with_reducible refine arm_xor32 (T := 190) (by simp only [evl]; first | done | with_reducible rfl) (by simp only [evl]; first | done | with_reducible rfl) ?_); (try simp only [nrm])) | ((with_reducible refine arm_add32 (T := 190) (by simp only [evl]; first | done | with_reducible rfl) (by simp only [evl]; first | done | with_reducible rfl) ?_); (try simp only [nrm]))))
  go_ret
  exact ⟨rfl, rfl⟩

set_option maxHeartbeats 400000 in
theorem rotated_any (x : Wd) (a b c : Nat) (h1 : 1 ≤ a ∧ a ≤ 31) (h2 : 1 ≤ b ∧ b ≤ 31) (h3 : 1 ≤ c ∧ c ≤ 31) (w : World) :
    Calls Tryd.prog 134 #[wV x, .int .i64 a, .int .i64 b, .int .i64 c] w fun e w' => e = .returned (wV (rot3 x a b c)) ∧ w = w' := by
  go_enter Tryd.func134, Tryd.ntmps134
  go_wp2_with ((first | (with_reducible refine arm_on0 ?_) | (with_reducible refine arm_on (by with_unfolding_all rfl) ?_)); (first | ((with_reducible refine arm_callW (rot_any _ a _ (by first | rfl | (rw [IntKind.wrap_i64]; omega)) h1.1 h1.2 _) (by simp only [evl]; first | done | with_reducible rfl) (by with_unfolding_all rfl) ?_); (try simp only [nrm])) | ((with_reducible refine arm_callW (rot_any _ b _ (by first | rfl | (rw [IntKind.wrap_i64]; omega)) h2.1 h2.2 _) (by simp only [evl]; first | done | with_reducible rfl) (by with_unfolding_all rfl) ?_); (try simp only [nrm])) | ((with_reducible refine arm_callW (rot_any _ c _ (by first | rfl | (rw [IntKind.wrap_i64]; omega)) h3.1 h3.2 _) (by simp only [evl]; first | done | with_reducible rfl) (by with_unfolding_all rfl) ?_); (try simp only [nrm])) | ((with_reducible refine arm_shl32 (T := 190) (by simp only [evl]; first | done | with_reducible rfl) (by simp only [evl]; first | done | with_reducible rfl) rfl (by omega) ?_); (try simp only [nrm])) | ((with_reducible refine arm_shr32 (T := 190) (by simp only [evl]; first | done | with_reducible rfl) (by simp only [evl]; first | done | with_reducible rfl) rfl (by omega) ?_); (try simp only [nrm])) | ((with_reducible refine arm_or32 (T := 190) (by simp only [evl]; first | done | with_reducible rfl) (by simp only [evl]; first | done | with_reducible rfl) ?_); (try simp only [nrm])) | ((with_reducible refine arm_and32 (T := 190) (by simp only [evl]; first | done | with_reducible rfl) (by simp only [evl]; first | done | with_reducible rfl) ?_); (try simp only [nrm])) | ((with_reducible refine arm_xor32 (T := 190) (by simp only [evl]; first | done | with_reducible rfl) (by simp only [evl]; first | done | with_reducible rfl) ?_); (try simp only [nrm])) | ((with_reducible refine arm_add32 (T := 190) (by simp only [evl]; first | done | with_reducible rfl) (by simp only [evl]; first | done | with_reducible rfl) ?_); (try simp only [nrm]))))
  go_ret
  exact ⟨rfl, rfl⟩
set_option maxHeartbeats 400000 in
theorem word_any (b o n c : Nat) (l : List UInt8) (w : World) (hn : 4 ≤ n) (hc : n ≤ c) (hcm : c ≤ maxLen) (hl : l.length = n) (hr : w.rangeAt b o (bytesV l)) :
    Calls Tryd.prog 132 #[.slice (some ⟨b, o, none⟩) n c] w fun e w' => e = .returned (wV (word l)) ∧ w = w' := by
  have hb : ∀ j, j < 4 → w.cell? ⟨b, o + j, none⟩ = some (byteV (l.getD j 0)) := by
    intro j hj
    refine hr j _ ?_
    simp [bytesV, List.getElem?_map, List.getElem?_eq_getElem (show j < l.length by omega)]
  have hw : word l = wordF 0 (l.take 4) := rfl
  go_enter Tryd.func132, Tryd.ntmps132
  go_wp2_with ((first | (with_reducible refine arm_on0 ?_) | (with_reducible refine arm_on (by with_unfolding_all rfl) ?_)); (first | ((with_reducible refine arm_shl32 (T := 190) (by simp only [evl]; first | done | with_reducible rfl) (by simp only [evl]; first | done | with_reducible rfl) rfl (by omega) ?_); (try simp only [nrm])) | ((with_reducible refine arm_shr32 (T := 190) (by simp only [evl]; first | done | with_reducible rfl) (by simp only [evl]; first | done | with_reducible rfl) rfl (by omega) ?_); (try simp only [nrm])) | ((with_reducible refine arm_or32 (T := 190) (by simp only [evl]; first | done | with_reducible rfl) (by simp only [evl]; first | done | with_reducible rfl) ?_); (try simp only [nrm])) | ((with_reducible refine arm_and32 (T := 190) (by simp only [evl]; first | done | with_reducible rfl) (by simp only [evl]; first | done | with_reducible rfl) ?_); (try simp only [nrm])) | ((with_reducible refine arm_xor32 (T := 190) (by simp only [evl]; first | done | with_reducible rfl) (by simp only [evl]; first | done | with_reducible rfl) ?_); (try simp only [nrm])) | ((with_reducible refine arm_add32 (T := 190) (by simp only [evl]; first | done | with_reducible rfl) (by simp only [evl]; first | done | with_reducible rfl) ?_); (try simp only [nrm]))))
  go_loopw [2, 8] (fun v i wr => ∃ (k : Nat) (x : Wd), k ≤ 4 ∧ i = .int .i64 k ∧ v = wV x ∧ wr = w ∧ wordF 0 (l.take 4) = wordF x ((l.take 4).drop k)) (fun _ i _ => 4 - (intOf i).toNat)
  case atStart => exact ⟨0, 0, by omega, rfl, rfl, rfl, rfl⟩
  case round =>
    obtain ⟨k, x, hk, rfl, rfl, rfl, hx⟩ := hrel
    go_wp2_with ((first | (with_reducible refine arm_on0 ?_) | (with_reducible refine arm_on (by with_unfolding_all rfl) ?_)); (first | ((with_reducible refine arm_shl32 (T := 190) (m := 8) (by simp only [evl]; first | done | with_reducible rfl) (by simp only [evl]; first | done | with_reducible rfl) (by omega) (by omega) ?_); (try simp only [nrm])) | ((with_reducible refine arm_shl32 (T := 190) (by simp only [evl]; first | done | with_reducible rfl) (by simp only [evl]; first | done | with_reducible rfl) rfl (by omega) ?_); (try simp only [nrm])) | ((with_reducible refine arm_shr32 (T := 190) (by simp only [evl]; first | done | with_reducible rfl) (by simp only [evl]; first | done | with_reducible rfl) rfl (by omega) ?_); (try simp only [nrm])) | ((with_reducible refine arm_or32 (T := 190) (by simp only [evl]; first | done | with_reducible rfl) (by simp only [evl]; first | done | with_reducible rfl) ?_); (try simp only [nrm])) | ((with_reducible refine arm_and32 (T := 190) (by simp only [evl]; first | done | with_reducible rfl) (by simp only [evl]; first | done | with_reducible rfl) ?_); (try simp only [nrm])) | ((with_reducible refine arm_xor32 (T := 190) (by simp only [evl]; first | done | with_reducible rfl) (by simp only [evl]; first | done | with_reducible rfl) ?_); (try simp only [nrm])) | ((with_reducible refine arm_add32 (T := 190) (by simp only [evl]; first | done | with_reducible rfl) (by simp only [evl]; first | done | with_reducible rfl) ?_); (try simp only [nrm])) | ((with_reducible refine arm_conv8to32 (T2 := 190) (by simp only [evl]; first | done | with_reducible rfl) ?_); (try simp only [nrm])) | ((with_reducible refine arm_load1R (by simp only [evl]; first | done | with_reducible rfl) (hb k (by omega)) ?_); (try simp only [nrm]))))
    · have hd : (l.take 4).drop k = l.getD k 0 :: (l.take 4).drop (k + 1) := by
        rw [List.drop_eq_getElem_cons (by simp; omega)]
        simp [List.getElem_take, List.getD_eq_getElem?_getD, List.getElem?_eq_getElem (show k < l.length by omega)]
      go_roundw
      case rel => exact ⟨k + 1, _, by omega, (by first | rfl | trivial | (congr 1; omega) | (congr 2; omega)), (by first | rfl | trivial | (congr 1; omega) | (congr 2; omega)), (by first | rfl | trivial | (congr 1; omega) | (congr 2; omega)), hx.trans (by rw [hd]; rfl)⟩
      case measure => simp [intOf]; omega
    · have hd : (l.take 4).drop k = [] := List.drop_eq_nil_of_le (by simp; omega)
      rw [hd] at hx
      go_ret
      exact ⟨by rw [hw, hx]; rfl, rfl⟩

set_option maxHeartbeats 400000 in
theorem put_any (b o n c : Nat) (T : TypeId) (cs : List Value) (x : Nat) (hx : x < 18446744073709551616) (w : World) (hm : HasE w (b, T, cs)) (hl : o + n ≤ cs.length) (hc : n ≤ c) (hn : n ≤ 8) :
    Calls Tryd.prog 113 #[.slice (some ⟨b, o, none⟩) n c, .int .u64 (x : Int)] w fun e w' => e = .returned (.tuple #[]) ∧ Mem w [b] [(b, T, splice cs o (bytesV (be x n)))] w' := by
  have hM : Mem w [b] [(b, T, cs)] w := Mem.single hm
  go_enter Tryd.func113, Tryd.ntmps113
  go_wp2_with ((first | (with_reducible refine arm_on0 ?_) | (with_reducible refine arm_on (by with_unfolding_all rfl) ?_)); (first | ((with_reducible refine arm_shl32 (T := 190) (by simp only [evl]; first | done | with_reducible rfl) (by simp only [evl]; first | done | with_reducible rfl) rfl (by omega) ?_); (try simp only [nrm])) | ((with_reducible refine arm_shr32 (T := 190) (by simp only [evl]; first | done | with_reducible rfl) (by simp only [evl]; first | done | with_reducible rfl) rfl (by omega) ?_); (try simp only [nrm])) | ((with_reducible refine arm_or32 (T := 190) (by simp only [evl]; first | done | with_reducible rfl) (by simp only [evl]; first | done | with_reducible rfl) ?_); (try simp only [nrm])) | ((with_reducible refine arm_and32 (T := 190) (by simp only [evl]; first | done | with_reducible rfl) (by simp only [evl]; first | done | with_reducible rfl) ?_); (try simp only [nrm])) | ((with_reducible refine arm_xor32 (T := 190) (by simp only [evl]; first | done | with_reducible rfl) (by simp only [evl]; first | done | with_reducible rfl) ?_); (try simp only [nrm])) | ((with_reducible refine arm_add32 (T := 190) (by simp only [evl]; first | done | with_reducible rfl) (by simp only [evl]; first | done | with_reducible rfl) ?_); (try simp only [nrm]))))
  go_loopw [7] (fun i wr => ∃ (k : Nat), k ≤ n ∧ i = .int .i64 k ∧ Mem w [b] [(b, T, splice cs (o + (n - k)) (bytesV (be x k)))] wr) (fun i _ => n - (intOf i).toNat)
  case atStart => exact ⟨0, by omega, rfl, by simpa [be, splice_nil] using hM⟩
  case round =>
    obtain ⟨k, hk, rfl, hM⟩ := hrel
    by_cases hkn : k < n
    · have e1 : IntKind.i64.wrap ((n : Int) - 1) = ((n - 1 : Nat) : Int) := by rw [IntKind.wrap_i64]; omega
      have e2 : IntKind.i64.wrap (((n - 1 : Nat) : Int) - k) = ((n - 1 - k : Nat) : Int) := by rw [IntKind.wrap_i64]; omega
      have e3 : IntKind.i64.wrap (8 * (k : Int)) = ((8 * k : Nat) : Int) := by rw [IntKind.wrap_i64]; omega
      have e4 : o + (n - 1 - k) + 1 = o + (n - k) := by omega
      have e5 : (splice cs (o + (n - k)) (bytesV (be x k))).set (o + (n - 1 - k)) (byteV (UInt8.ofNat (x / 2 ^ (8 * k)))) = splice cs (o + (n - (k + 1))) (bytesV (be x (k + 1))) := by
        rw [← e4, set_splice (by simp; omega)]
        congr 1; omega
      have e6 : o + (n - 1 - k) < (splice cs (o + (n - k)) (bytesV (be x k))).length := by
        rw [splice_length (by simp; omega)]; omega
      go_wp2_with ((first | (with_reducible refine arm_on0 ?_) | (with_reducible refine arm_on (by with_unfolding_all rfl) ?_)); (first | ((with_reducible refine arm_shr64 (m := 8 * k) (by simp only [evl]; first | done | with_reducible rfl) (by simp only [evl]; first | done | with_reducible rfl) (by omega) (by omega) ?_); (try simp only [nrm])) | ((with_reducible refine arm_convtou8 (T2 := 5) (by simp only [evl]; first | done | with_reducible rfl) ?_); (try simp only [nrm])) | ((with_reducible refine arm_store1 hM (by simp only [evl]; first | done | with_reducible rfl) (by simp only [evl, dV_cells, nV_cells, lV_cells, cV_cells, cells_agg, cells_int, cells_bool, cells_slice, cells_ptr, cells_func, cells_str, cells_byteV, cells_wV, List.toList_toArray]; first | done | with_reducible rfl) (by first | exact byteV_one _ | exact wV_one _ | with_unfolding_all rfl) (by (repeat (first | exact Upd.head _ | apply Upd.tail | apply Upd.app)); first | done | fail) (e6) (e5) ?_); clear hM; intro w hM; (try simp only [nrm]))))
      go_roundw
      case rel => exact ⟨k + 1, by omega, (by first | rfl | trivial | (congr 1; omega) | (congr 2; omega)), hM⟩
      case measure => simp [intOf]; omega
    · have ekn : k = n := by omega
      subst ekn
      go_wp2_with ((first | (with_reducible refine arm_on0 ?_) | (with_reducible refine arm_on (by with_unfolding_all rfl) ?_)); (first | ((with_reducible refine arm_convtou8 (T2 := 5) (by simp only [evl]; first | done | with_reducible rfl) ?_); (try simp only [nrm]))))
      go_end0
      exact ⟨(by first | rfl | trivial | (congr 1; omega) | (congr 2; omega)), by simpa using hM⟩
end Go.Proofs.YtelnilllleempaaDoor
