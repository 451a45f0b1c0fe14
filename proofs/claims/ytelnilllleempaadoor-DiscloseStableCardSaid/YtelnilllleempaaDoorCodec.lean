/- The encoding of a list of integers. -/
import Derived.Test.YtelnilllleempaaDoorClimb
namespace Go.Proofs.YtelnilllleempaaDoor
set_option linter.all false
open Go Go.RowKit

/-- the digits of a number, seven bits each, the least first -/
def numF : Nat → Nat → List UInt8
  | 0, u => [UInt8.ofNat u]
  | f + 1, u => if u < 128 then [UInt8.ofNat u] else (UInt8.ofNat u ||| 128) :: numF f (u / 128)
def num (u : Nat) : List UInt8 := numF 10 u
theorem numF_len : ∀ f u, (numF f u).length ≤ f + 1
  | 0, u => by simp [numF]
  | f + 1, u => by
    simp only [numF]; split
    · simp
    · have := numF_len f (u / 128); simp; omega

set_option maxRecDepth 20000 in
set_option maxHeartbeats 800000 in
theorem numeral_any (u : Nat) (hu : u < 18446744073709551616) (v : Value) (n : Nat) (xs : List Value) (ho : List Ent) (w0 : World) (hO : Own 5 1 v n xs ho) (hM : Mem w0 (ho.map (·.1)) ho w0) (hn : n ≤ 1000000000) :
    Calls Tryd.prog 128 #[v, .int .u64 (u : Int)] w0 (RetT w0 ho 5 1 (n + (num u).length) (xs ++ bytesV (num u))) := by
  go_enter Tryd.func128, Tryd.ntmps128
  go_wp2_with ((first | (with_reducible refine arm_on0 ?_) | (with_reducible refine arm_on (by with_unfolding_all rfl) ?_)); (first | fail))
  go_loopw [0, 1] (fun v' u' wr => ∃ (f m : Nat) (acc : List UInt8) (ho' : List Ent), u' = .int .u64 (m : Int) ∧ m < 128 ^ f * 128 ∧ f ≤ 10 ∧ Own 5 1 v' (n + acc.length) (xs ++ bytesV acc) ho' ∧ Mem w0 (ho.map (·.1)) (ho' ++ []) wr ∧ acc ++ numF f m = num u ∧ acc.length + f = 10) (fun _ u' _ => (intOf u').toNat)
  case atStart => exact ⟨10, u, [], ho, (by first | rfl | trivial | (congr 1; omega) | (congr 2; omega)), by omega, by omega, by simpa using hO, by simpa using hM, rfl, rfl⟩
  case round =>
    clear hM hO
    obtain ⟨f, m, acc, ho', rfl, hm, hf, hO, hM, hacc, hlen⟩ := hrel
    by_cases h128 : 128 ≤ m
    · obtain ⟨f, rfl⟩ : ∃ f', f = f' + 1 := ⟨f - 1, by
        rcases Nat.eq_zero_or_pos f with h | h
        · subst h; simp at hm; omega
        · omega⟩
      go_wp2_with ((first | (with_reducible refine arm_on0 ?_) | (with_reducible refine arm_on (by with_unfolding_all rfl) ?_)); (first | ((with_reducible refine arm_convtou8 (T2 := 5) (by simp only [evl]; first | done | with_reducible rfl) ?_); (try simp only [nrm])) | ((with_reducible refine arm_or128 (by simp only [evl]; first | done | with_reducible rfl) (by simp only [evl]; first | done | with_reducible rfl) ?_); (try simp only [nrm])) | (((with_reducible refine arm_buildSlice hM (by with_unfolding_all rfl) (by simp only [List.map_cons, List.map_nil]; simp only [evl, dV_cells, nV_cells, lV_cells, cV_cells, cells_agg, cells_int, cells_bool, cells_slice, cells_ptr, cells_func, cells_str, cells_byteV, cells_wV, List.toList_toArray]; simp only [List.flatten_cons, List.flatten_nil, List.append_nil, List.cons_append, List.nil_append]; with_reducible rfl) (by intro p hp; simp only [List.mem_cons, List.not_mem_nil, or_false] at hp; rcases hp with rfl <;> (simp only [evl, dV_cells, nV_cells, lV_cells, cV_cells, cells_agg, cells_int, cells_bool, cells_slice, cells_ptr, cells_func, cells_str, cells_byteV, cells_wV]; simp)) (by decide) ?_); clear hM; intro b w hb hM; (try simp only [nrm])); replace hM := hM.perm (List.perm_middle)) | (((with_reducible refine arm_append_own (ho := ho') (hs := _) hO hM (by simp only [evl]; first | done | with_reducible rfl) (by simp only [evl]; first | done | with_reducible rfl) (hM.sl_ent (List.mem_append_right _ List.mem_cons_self) 0 (n := 1) (c := 1) (size := 1) (xs := bytesV [UInt8.ofNat m ||| 128]) (by with_unfolding_all rfl) (by with_unfolding_all rfl) (by omega) (by decide)) (bytesV_one _) (by omega) (by unfold maxLen; omega) ?_); clear hM; intro v ho w hO hM; (try simp only [nrm])); replace hM := hM.sub (List.Sublist.append_left (List.sublist_cons_self _ _) _)) | ((with_reducible refine arm_shr64 (m := 7) (by simp only [evl]; first | done | with_reducible rfl) (by simp only [evl]; first | done | with_reducible rfl) (by omega) (by omega) ?_); (try simp only [nrm]))))
      have e7 : m / 2 ^ 7 = m / 128 := rfl
      have hF : numF (f + 1) m = (UInt8.ofNat m ||| 128) :: numF f (m / 128) := by simp only [numF]; rw [if_neg (by omega)]
      rw [Nat.pow_succ] at hm
      go_roundw
      case rel => exact ⟨f, m / 128, acc ++ [UInt8.ofNat m ||| 128], ho, (by first | rfl | trivial | (congr 1; omega) | (congr 2; omega)), Nat.div_lt_of_lt_mul (by omega), by omega, by rw [List.length_append, List.length_singleton, bytesV_append, ← List.append_assoc, ← Nat.add_assoc]; exact hO, hM, by rw [← hacc, hF]; simp, by rw [List.length_append, List.length_singleton]; omega⟩
      case measure => rw [e7]; simp only [intOf, Int.toNat_natCast]; omega
    · go_wp2_with ((first | (with_reducible refine arm_on0 ?_) | (with_reducible refine arm_on (by with_unfolding_all rfl) ?_)); (first | ((with_reducible refine arm_convtou8 (T2 := 5) (by simp only [evl]; first | done | with_reducible rfl) ?_); (try simp only [nrm])) | ((with_reducible refine arm_or128 (by simp only [evl]; first | done | with_reducible rfl) (by simp only [evl]; first | done | with_reducible rfl) ?_); (try simp only [nrm])) | (((with_reducible refine arm_buildSlice hM (by with_unfolding_all rfl) (by simp only [List.map_cons, List.map_nil]; simp only [evl, dV_cells, nV_cells, lV_cells, cV_cells, cells_agg, cells_int, cells_bool, cells_slice, cells_ptr, cells_func, cells_str, cells_byteV, cells_wV, List.toList_toArray]; simp only [List.flatten_cons, List.flatten_nil, List.append_nil, List.cons_append, List.nil_append]; with_reducible rfl) (by intro p hp; simp only [List.mem_cons, List.not_mem_nil, or_false] at hp; rcases hp with rfl <;> (simp only [evl, dV_cells, nV_cells, lV_cells, cV_cells, cells_agg, cells_int, cells_bool, cells_slice, cells_ptr, cells_func, cells_str, cells_byteV, cells_wV]; simp)) (by decide) ?_); clear hM; intro b w hb hM; (try simp only [nrm])); replace hM := hM.perm (List.perm_middle)) | (((with_reducible refine arm_append_own (ho := ho') (hs := _) hO hM (by simp only [evl]; first | done | with_reducible rfl) (by simp only [evl]; first | done | with_reducible rfl) (hM.sl_ent (List.mem_append_right _ List.mem_cons_self) 0 (n := 1) (c := 1) (size := 1) (xs := bytesV [UInt8.ofNat m]) (by with_unfolding_all rfl) (by with_unfolding_all rfl) (by omega) (by decide)) (bytesV_one _) (by omega) (by unfold maxLen; omega) ?_); clear hM; intro v ho w hO hM; (try simp only [nrm])); replace hM := hM.sub (List.Sublist.append_left (List.sublist_cons_self _ _) _)) | ((with_reducible refine arm_shr64 (m := 7) (by simp only [evl]; first | done | with_reducible rfl) (by simp only [evl]; first | done | with_reducible rfl) (by omega) (by omega) ?_); (try simp only [nrm]))))
      have hF : numF f m = [UInt8.ofNat m] := by
        cases f with
        | zero => rfl
        | succ f => simp only [numF]; rw [if_pos (by omega)]
      go_ret
      refine ⟨_, _, rfl, ?_, by simpa using hM⟩
      rw [← hacc, hF, List.length_append, List.length_singleton, bytesV_append, ← List.append_assoc, ← Nat.add_assoc]
      exact hO
theorem xor0 (x : Nat) (hx : x < 18446744073709551616) : bits .xor .u64 (x : Int) 0 = (x : Int) := by
  have : bits .xor .u64 (x : Int) 0 = IntKind.u64.wrap ((BitVec.ofInt 64 (x : Int) ^^^ BitVec.ofInt 64 0).toNat : Int) := rfl
  rw [this]
  have h1 : BitVec.ofInt 64 (x : Int) = BitVec.ofNat 64 x := by simp
  have h2 : BitVec.ofInt 64 0 = 0#64 := rfl
  rw [h1, h2, BitVec.xor_zero, BitVec.toNat_ofNat, IntKind.wrap_u64]
  omega
set_option maxRecDepth 20000 in
set_option maxHeartbeats 800000 in
theorem unsigned_any (n : Nat) (hn : n < 4611686018427387904) (w0 : World) :
    Calls Tryd.prog 129 #[.int .i64 (n : Int)] w0 fun e w' => e = .returned (.int .u64 ((2 * n : Nat) : Int)) ∧ w0 = w' := by
  have e1 : IntKind.u64.wrap (n : Int) = n := by rw [IntKind.wrap_u64]; omega
  go_enter Tryd.func129, Tryd.ntmps129
  go_wp2_with ((first | (with_reducible refine arm_on0 ?_) | (with_reducible refine arm_on (by with_unfolding_all rfl) ?_)); (first | fail))
  have e2 : (n : Int) / 9223372036854775808 = 0 := by omega
  have e3 := xor0 (n * 2) (by omega)
  rw [Int.natCast_mul] at e3
  have e4 : ((2 * n : Nat) : Int) = (n : Int) * 2 := by omega
  rw [e2, e4, show bits .xor .u64 ((n : Int) * 2) 0 = (n : Int) * 2 from e3]
  go_ret
  exact ⟨rfl, rfl⟩

end Go.Proofs.YtelnilllleempaaDoor
