/- Climbing a path. -/
import Derived.Test.YtelnilllleempaaDoorPath
namespace Go.Proofs.YtelnilllleempaaDoor
set_option linter.all false
open Go Go.RowKit

/-- left or right, from the top down -/
def dirsF : Nat → Nat → Nat → List Bool
  | 0, _, _ => []
  | f + 1, n, i => if n ≤ 1 then [] else decide (i < halfN n) :: (if i < halfN n then dirsF f (halfN n) i else dirsF f (n - halfN n) (i - halfN n))
theorem dirsF_any : ∀ (f g n i : Nat), n ≤ f → n ≤ g → n ≤ 1099511627776 → dirsF f n i = dirsF g n i
  | 0, 0, _, _, _, _, _ => rfl
  | 0, g + 1, n, i, h, _, _ => by
    have : n ≤ 1 := by omega
    simp [dirsF, this]
  | f + 1, 0, n, i, _, h, _ => by
    have : n ≤ 1 := by omega
    simp [dirsF, this]
  | f + 1, g + 1, n, i, h1, h2, h3 => by
    simp only [dirsF]
    split
    · rfl
    · have := halfN_lt n (by omega) (by omega)
      rw [dirsF_any f g (halfN n) i (by omega) (by omega) (by omega), dirsF_any f g (n - halfN n) _ (by omega) (by omega) (by omega)]
def dirs (n i : Nat) : List Bool := dirsF n n i
theorem dirs_one (n i : Nat) (h : n ≤ 1) : dirs n i = [] := by
  unfold dirs
  obtain h0 | h0 : n = 0 ∨ n = 1 := by omega
  · rw [h0]; rfl
  · rw [h0]; simp [dirsF]
theorem dirs_more (n i : Nat) (h : 2 ≤ n) (h3 : n ≤ 1099511627776) : dirs n i = decide (i < halfN n) :: (if i < halfN n then dirs (halfN n) i else dirs (n - halfN n) (i - halfN n)) := by
  have hh := halfN_lt n h (by omega)
  unfold dirs
  obtain ⟨f, hf⟩ : ∃ f, n = f + 1 := ⟨n - 1, by omega⟩
  rw [show dirsF n n i = dirsF (f + 1) n i by rw [hf]]
  conv => lhs; unfold dirsF
  rw [if_neg (by omega), dirsF_any f (halfN n) _ _ (by omega) (Nat.le_refl _) (by omega), dirsF_any f (n - halfN n) _ _ (by omega) (Nat.le_refl _) (by omega)]

/-- one step up -/
def upD (x : Dig) (b : Bool) (o : Dig) : Dig := if b then nodeD x o else nodeD o x
/-- the first k steps from a leaf -/
def climbK (fs : List Bool) (p : List Dig) (x : Dig) : Nat → Dig
  | 0 => x
  | k + 1 => upD (climbK fs p x k) (fs.getD (fs.length - 1 - k) false) (p.getD k zeroDig)
def climbD (d : Dig) (i n : Nat) (p : List Dig) : Dig := climbK (dirs n i) p (leafD d) p.length

def bsV (l : List Bool) : List Value := l.map Value.bool
theorem bsV_snoc (a : List Bool) (t : Bool) : bsV (a ++ [t]) = bsV a ++ [.bool t] := by simp [bsV]
@[simp] theorem bsV_length (l : List Bool) : (bsV l).length = l.length := by simp [bsV]

/-- the step down, as numbers -/
theorem dirs_len_le : ∀ (n i : Nat), n ≤ 1099511627776 → (dirs n i).length + 1 ≤ n + 1 := fun n i h => by
  induction n using Nat.strongRecOn generalizing i with
  | _ n ih =>
    by_cases h2 : 2 ≤ n
    · have hh := halfN_lt n h2 (by omega)
      rw [dirs_more n i h2 h]
      split
      · have := ih (halfN n) (by omega) i (by omega); simp; omega
      · have := ih (n - halfN n) (by omega) (i - halfN n) (by omega); simp; omega
    · rw [dirs_one n i (by omega)]; simp

set_option maxRecDepth 20000 in
set_option maxHeartbeats 1600000 in
theorem climb_any (d : Dig) (i n : Nat) (A : Option Addr) (m c : Nat) (p : List Dig) (w0 : World) (hG : Glo w0) (h : SlD w0 A m c p) (hn : n ≤ 1099511627776) (hi : i < n) :
    Calls Tryd.prog 108 #[dV d, .int .i64 (i : Int), .int .i64 (n : Int), .slice A m c] w0 fun e w' => e = .returned (if p.length = (dirs n i).length then .tuple #[dV (climbD d i n p), .int .i64 0] else .tuple #[dV zeroDig, .int .i64 1]) ∧ Below w0.heap.size w0 w' := by
  have hM := Mem.refl w0 []
  have hl := h.lenD
  go_enter Tryd.func108, Tryd.ntmps108
  go_wp2_with ((first | (with_reducible refine arm_on0 ?_) | (with_reducible refine arm_on (by with_unfolding_all rfl) ?_)); (first | ((with_reducible refine arm_box hM (by simp only [evl, dV_cells, nV_cells, lV_cells, cV_cells, cells_agg, cells_int, cells_bool, cells_slice, cells_ptr, cells_func, cells_str, cells_byteV, cells_wV, List.toList_toArray]; first | done | with_reducible rfl) ?_); clear hM; intro db w hb hM; (try simp only [nrm])) | ((with_reducible refine arm_alloc hM ?_); clear hM; intro xb w hb hM; (try simp only [nrm]))))
  go_loopw [1, 2, 10] (fun v1 v2 v10 wr => ∃ (i' n' : Nat) (acc : List Bool) (ho : List Ent), v1 = .int .i64 i' ∧ v2 = .int .i64 n' ∧ i' < n' ∧ n' ≤ n ∧ acc.length ≤ n - n' ∧ Own 4 1 v10 acc.length (bsV acc) ho ∧ Mem w0 [] (ho ++ [(xb, 25, dcells zeroDig), (db, 25, dcells d)]) wr ∧ acc ++ dirs n' i' = dirs n i) (fun _ v2 _ _ => (intOf v2).toNat)
  case atStart => exact ⟨i, n, [], [], (by first | rfl | trivial | (congr 1; omega) | (congr 2; omega)), (by first | rfl | trivial | (congr 1; omega) | (congr 2; omega)), hi, Nat.le_refl _, by simp, .nil, hM, rfl⟩
  case round =>
    clear hM
    obtain ⟨i', n', acc, ho, rfl, rfl, hi', hnn, hacc, hO, hM, hp⟩ := hrel
    by_cases h2 : 2 ≤ n'
    · have hh := halfN_lt n' (by omega) (by omega)
      have hm := dirs_more n' i' (by omega) (by omega)
      have e1 : IntKind.i64.wrap ((i' : Int) - (halfN n' : Nat)) = ((i' : Int) - (halfN n' : Nat)) := by rw [IntKind.wrap_i64]; omega
      have e2 : IntKind.i64.wrap ((n' : Int) - (halfN n' : Nat)) = ((n' : Int) - (halfN n' : Nat)) := by rw [IntKind.wrap_i64]; omega
      by_cases hlt : i' < halfN n'
      · rw [if_pos hlt] at hm
        go_wp2_with ((first | (with_reducible refine arm_on0 ?_) | (with_reducible refine arm_on (by with_unfolding_all rfl) ?_)); (first | ((with_reducible refine arm_callW (half_any n' (by omega) (by omega) _) (by simp only [evl]; first | done | with_reducible rfl) (by with_unfolding_all rfl) ?_); (try simp only [nrm])) | (((with_reducible refine arm_buildSlice hM (by with_unfolding_all rfl) (by simp only [List.map_cons, List.map_nil]; simp only [evl, dV_cells, nV_cells, lV_cells, cV_cells, cells_agg, cells_int, cells_bool, cells_slice, cells_ptr, cells_func, cells_str, cells_byteV, cells_wV, List.toList_toArray]; simp only [List.flatten_cons, List.flatten_nil, List.append_nil, List.cons_append, List.nil_append]; with_reducible rfl) (by intro p hp; simp only [List.mem_cons, List.not_mem_nil, or_false] at hp; rcases hp with rfl <;> (simp only [evl, dV_cells, nV_cells, lV_cells, cV_cells, cells_agg, cells_int, cells_bool, cells_slice, cells_ptr, cells_func, cells_str, cells_byteV, cells_wV]; simp)) (by decide) ?_); clear hM; intro b w hb hM; (try simp only [nrm])); replace hM := hM.perm List.perm_middle) | (((with_reducible refine arm_append_own (ho := ho) (hs := _) hO hM (by simp only [evl]; first | done | with_reducible rfl) (by simp only [evl]; first | done | with_reducible rfl) (hM.sl_ent (List.mem_append_right _ List.mem_cons_self) 0 (n := 1) (c := 1) (size := 1) (xs := [.bool true]) (by with_unfolding_all rfl) (by with_unfolding_all rfl) (by omega) (by decide)) ((by intro u hu; rw [List.mem_singleton] at hu; subst hu; with_unfolding_all rfl)) (by omega) (by unfold maxLen; omega) ?_); clear hM; intro v ho w hO hM; (try simp only [nrm])); replace hM := hM.sub (List.Sublist.append_left (List.sublist_cons_self _ _) _))))
        go_roundw
        case rel => exact ⟨i', halfN n', acc ++ [true], ho, (by first | rfl | trivial | (congr 1; omega) | (congr 2; omega)), (by first | rfl | trivial | (congr 1; omega) | (congr 2; omega)), hlt, by omega, by rw [List.length_append, List.length_singleton]; omega, by rw [bsV_snoc, List.length_append]; exact hO, hM, by rw [← hp, hm, decide_eq_true hlt]; simp⟩
        case measure => simp [intOf]; omega
      · rw [if_neg hlt] at hm
        go_wp2_with ((first | (with_reducible refine arm_on0 ?_) | (with_reducible refine arm_on (by with_unfolding_all rfl) ?_)); (first | ((with_reducible refine arm_callW (half_any n' (by omega) (by omega) _) (by simp only [evl]; first | done | with_reducible rfl) (by with_unfolding_all rfl) ?_); (try simp only [nrm])) | (((with_reducible refine arm_buildSlice hM (by with_unfolding_all rfl) (by simp only [List.map_cons, List.map_nil]; simp only [evl, dV_cells, nV_cells, lV_cells, cV_cells, cells_agg, cells_int, cells_bool, cells_slice, cells_ptr, cells_func, cells_str, cells_byteV, cells_wV, List.toList_toArray]; simp only [List.flatten_cons, List.flatten_nil, List.append_nil, List.cons_append, List.nil_append]; with_reducible rfl) (by intro p hp; simp only [List.mem_cons, List.not_mem_nil, or_false] at hp; rcases hp with rfl <;> (simp only [evl, dV_cells, nV_cells, lV_cells, cV_cells, cells_agg, cells_int, cells_bool, cells_slice, cells_ptr, cells_func, cells_str, cells_byteV, cells_wV]; simp)) (by decide) ?_); clear hM; intro b w hb hM; (try simp only [nrm])); replace hM := hM.perm List.perm_middle) | (((with_reducible refine arm_append_own (ho := ho) (hs := _) hO hM (by simp only [evl]; first | done | with_reducible rfl) (by simp only [evl]; first | done | with_reducible rfl) (hM.sl_ent (List.mem_append_right _ List.mem_cons_self) 0 (n := 1) (c := 1) (size := 1) (xs := [.bool false]) (by with_unfolding_all rfl) (by with_unfolding_all rfl) (by omega) (by decide)) ((by intro u hu; rw [List.mem_singleton] at hu; subst hu; with_unfolding_all rfl)) (by omega) (by unfold maxLen; omega) ?_); clear hM; intro v ho w hO hM; (try simp only [nrm])); replace hM := hM.sub (List.Sublist.append_left (List.sublist_cons_self _ _) _))))
        go_roundw
        case rel => exact ⟨i' - halfN n', n' - halfN n', acc ++ [false], ho, (by first | rfl | trivial | (congr 1; omega) | (congr 2; omega)), (by first | rfl | trivial | (congr 1; omega) | (congr 2; omega)), by omega, by omega, by rw [List.length_append, List.length_singleton]; omega, by rw [bsV_snoc, List.length_append]; exact hO, hM, by rw [← hp, hm, decide_eq_false hlt]; simp⟩
        case measure => simp [intOf]; omega
    · have hd : acc = dirs n i := by rw [← hp, dirs_one n' i' (by omega)]; simp
      subst hd
      obtain ⟨A1, c1, rfl, hsl⟩ := hO.sl hM
      by_cases hlen : p.length = (dirs n i).length
      · have hsz := dirs_len_le n i hn
        go_wp2_with ((first | (with_reducible refine arm_on0 ?_) | (with_reducible refine arm_on (by with_unfolding_all rfl) ?_)); (first | ((with_reducible refine arm_loadW hM (by simp only [evl]; first | done | with_reducible rfl) (by (repeat (first | exact mHd | apply mTl | apply mAp)); first | done | fail) (by first | (simp; done) | with_unfolding_all rfl) ?_); (try simp only [nrm])) | ((with_reducible refine arm_storeW hM (by simp only [evl]; first | done | with_reducible rfl) (by simp only [evl, dV_cells, nV_cells, lV_cells, cV_cells, cells_agg, cells_int, cells_bool, cells_slice, cells_ptr, cells_func, cells_str, cells_byteV, cells_wV, List.toList_toArray]; first | done | with_reducible rfl) (by simp) (by first | exact dcells_one _ | exact stV_one _ | exact shcells_one _ | exact mtcells_one _ | exact tcells_one _ | exact rcells_one _ | exact ncells_one _ | exact lcells_one _ | exact ccells_one _ | exact bytesV_one _ | exact ivc_one _ | (simp [Value.oneCell']; done)) (by (repeat (first | exact Upd.head _ | apply Upd.tail | apply Upd.app)); first | done | fail) (by simp) ?_); clear hM; intro w hM; (try simp only [nrm])) | ((with_reducible refine arm_call hM (leaf_any _ _ (hM.glo hG)) (by simp only [evl]; first | done | with_reducible rfl) (by with_unfolding_all rfl) ?_); clear hM; intro w hM; (try simp only [nrm]))))
        have hE : leafD d = climbK (dirs n i) p (leafD d) 0 := rfl
        rw [hE] at hM
        clear hE
        go_loopw [60] (fun i' wr => ∃ (k : Nat), k ≤ m ∧ i' = .int .i64 k ∧ Mem w0 [] (ho ++ [(xb, 25, dcells (climbK (dirs n i) p (leafD d) k)), (db, 25, dcells d)]) wr) (fun i' _ => m - (intOf i').toNat)
        case atStart => exact ⟨0, by omega, (by first | rfl | trivial | (congr 1; omega) | (congr 2; omega)), hM⟩
        case round =>
          clear hM
          obtain ⟨k, hk, rfl, hM⟩ := hrel
          by_cases hkm : k < m
          · obtain ⟨b0, o, rfl, hr⟩ := h.at_ (by omega)
            have hx := dsV_at hr k (by omega)
            obtain ⟨A2, c2, e2, hsl⟩ := hO.sl hM
            cases e2
            obtain ⟨b1, o1, rfl, hr1⟩ := hsl.at_ (by omega)
            have hbit : ∀ w, Mem w0 [] (ho ++ [(xb, 25, dcells (climbK (dirs n i) p (leafD d) k)), (db, 25, dcells d)]) w → w.cell? ⟨b1, o1 + ((dirs n i).length - 1 - k), none⟩ = some (.bool ((dirs n i).getD ((dirs n i).length - 1 - k) false)) := fun w hM => by
              obtain ⟨A3, c3, e3, hsl3⟩ := hO.sl hM
              cases e3
              obtain ⟨b3, o3, e3, hr3⟩ := hsl3.at_ (by omega)
              cases e3
              exact hr3 _ _ (by simp [bsV, List.getElem?_map, List.getD_eq_getElem?_getD, List.getElem?_eq_getElem (show (dirs n i).length - 1 - k < (dirs n i).length by omega)])
            have hsx : climbK (dirs n i) p (leafD d) (k + 1) = upD (climbK (dirs n i) p (leafD d) k) ((dirs n i).getD ((dirs n i).length - 1 - k) false) (p.getD k zeroDig) := rfl
            generalize (dirs n i).getD ((dirs n i).length - 1 - k) false = B at hbit hsx
            have e1 : IntKind.i64.wrap (((dirs n i).length : Int) - 1) = (((dirs n i).length - 1 : Nat) : Int) := by rw [IntKind.wrap_i64]; omega
            have e2 : IntKind.i64.wrap ((((dirs n i).length - 1 : Nat) : Int) - k) = (((dirs n i).length - 1 - k : Nat) : Int) := by rw [IntKind.wrap_i64]; omega
            cases B
            · go_wp2_with ((first | (with_reducible refine arm_on0 ?_) | (with_reducible refine arm_on (by with_unfolding_all rfl) ?_)); (first | ((with_reducible refine arm_loadW hM (by simp only [evl]; first | done | with_reducible rfl) (by (repeat (first | exact mHd | apply mTl | apply mAp)); first | done | fail) (by first | (simp; done) | with_unfolding_all rfl) ?_); (try simp only [nrm])) | ((with_reducible refine arm_loadNR (by simp only [evl]; first | done | with_reducible rfl) (hM.old hx) (by first | (simp; done) | with_unfolding_all rfl) ?_); (try simp only [nrm])) | ((with_reducible refine arm_alloc hM ?_); clear hM; intro ob w hb hM; (try simp only [nrm])) | ((with_reducible refine arm_storeW hM (by simp only [evl]; first | done | with_reducible rfl) (by simp only [evl, dV_cells, nV_cells, lV_cells, cV_cells, cells_agg, cells_int, cells_bool, cells_slice, cells_ptr, cells_func, cells_str, cells_byteV, cells_wV, List.toList_toArray]; first | done | with_reducible rfl) (by simp) (by first | exact dcells_one _ | exact stV_one _ | exact shcells_one _ | exact mtcells_one _ | exact tcells_one _ | exact rcells_one _ | exact ncells_one _ | exact lcells_one _ | exact ccells_one _ | exact bytesV_one _ | exact ivc_one _ | (simp [Value.oneCell']; done)) (by (repeat (first | exact Upd.head _ | apply Upd.tail | apply Upd.app)); first | done | fail) (by simp) ?_); clear hM; intro w hM; (try simp only [nrm])) | ((with_reducible refine arm_load1R (by simp only [evl]; first | done | with_reducible rfl) (hbit _ hM.drop1) ?_); (try simp only [nrm])) | ((with_reducible refine arm_call hM (node_any _ _ _ (hM.glo hG)) (by simp only [evl]; first | done | with_reducible rfl) (by with_unfolding_all rfl) ?_); clear hM; intro w hM; (try simp only [nrm]))))
              go_roundw
              case rel => exact ⟨k + 1, by omega, (by first | rfl | trivial | (congr 1; omega) | (congr 2; omega)), by rw [hsx]; exact hM.drop1⟩
              case measure => simp [intOf]; omega
            · go_wp2_with ((first | (with_reducible refine arm_on0 ?_) | (with_reducible refine arm_on (by with_unfolding_all rfl) ?_)); (first | ((with_reducible refine arm_loadW hM (by simp only [evl]; first | done | with_reducible rfl) (by (repeat (first | exact mHd | apply mTl | apply mAp)); first | done | fail) (by first | (simp; done) | with_unfolding_all rfl) ?_); (try simp only [nrm])) | ((with_reducible refine arm_loadNR (by simp only [evl]; first | done | with_reducible rfl) (hM.old hx) (by first | (simp; done) | with_unfolding_all rfl) ?_); (try simp only [nrm])) | ((with_reducible refine arm_alloc hM ?_); clear hM; intro ob w hb hM; (try simp only [nrm])) | ((with_reducible refine arm_storeW hM (by simp only [evl]; first | done | with_reducible rfl) (by simp only [evl, dV_cells, nV_cells, lV_cells, cV_cells, cells_agg, cells_int, cells_bool, cells_slice, cells_ptr, cells_func, cells_str, cells_byteV, cells_wV, List.toList_toArray]; first | done | with_reducible rfl) (by simp) (by first | exact dcells_one _ | exact stV_one _ | exact shcells_one _ | exact mtcells_one _ | exact tcells_one _ | exact rcells_one _ | exact ncells_one _ | exact lcells_one _ | exact ccells_one _ | exact bytesV_one _ | exact ivc_one _ | (simp [Value.oneCell']; done)) (by (repeat (first | exact Upd.head _ | apply Upd.tail | apply Upd.app)); first | done | fail) (by simp) ?_); clear hM; intro w hM; (try simp only [nrm])) | ((with_reducible refine arm_load1R (by simp only [evl]; first | done | with_reducible rfl) (hbit _ hM.drop1) ?_); (try simp only [nrm])) | ((with_reducible refine arm_call hM (node_any _ _ _ (hM.glo hG)) (by simp only [evl]; first | done | with_reducible rfl) (by with_unfolding_all rfl) ?_); clear hM; intro w hM; (try simp only [nrm]))))
              go_roundw
              case rel => exact ⟨k + 1, by omega, (by first | rfl | trivial | (congr 1; omega) | (congr 2; omega)), by rw [hsx]; exact hM.drop1⟩
              case measure => simp [intOf]; omega
          · have hkm : k = m := by omega
            subst hkm
            go_wp2_with ((first | (with_reducible refine arm_on0 ?_) | (with_reducible refine arm_on (by with_unfolding_all rfl) ?_)); (first | ((with_reducible refine arm_loadW hM (by simp only [evl]; first | done | with_reducible rfl) (by (repeat (first | exact mHd | apply mTl | apply mAp)); first | done | fail) (by first | (simp; done) | with_unfolding_all rfl) ?_); (try simp only [nrm])) | ((with_reducible refine arm_storeW hM (by simp only [evl]; first | done | with_reducible rfl) (by simp only [evl, dV_cells, nV_cells, lV_cells, cV_cells, cells_agg, cells_int, cells_bool, cells_slice, cells_ptr, cells_func, cells_str, cells_byteV, cells_wV, List.toList_toArray]; first | done | with_reducible rfl) (by simp) (by first | exact dcells_one _ | exact stV_one _ | exact shcells_one _ | exact mtcells_one _ | exact tcells_one _ | exact rcells_one _ | exact ncells_one _ | exact lcells_one _ | exact ccells_one _ | exact bytesV_one _ | exact ivc_one _ | (simp [Value.oneCell']; done)) (by (repeat (first | exact Upd.head _ | apply Upd.tail | apply Upd.app)); first | done | fail) (by simp) ?_); clear hM; intro w hM; (try simp only [nrm]))))
            exact ret_cell2 rfl hM rfl (by (repeat (first | exact mHd | apply mTl | apply mAp)); first | done | fail) (by simp) rfl rfl ⟨by first | (rw [if_pos hlen, climbD, hl]; rfl) | (rw [climbD, hl]; rfl) | rfl, hM.below⟩
      · go_wp2_with ((first | (with_reducible refine arm_on0 ?_) | (with_reducible refine arm_on (by with_unfolding_all rfl) ?_)); (first | ((with_reducible refine arm_loadW hM (by simp only [evl]; first | done | with_reducible rfl) (by (repeat (first | exact mHd | apply mTl | apply mAp)); first | done | fail) (by first | (simp; done) | with_unfolding_all rfl) ?_); (try simp only [nrm])) | ((with_reducible refine arm_storeW hM (by simp only [evl]; first | done | with_reducible rfl) (by simp only [evl, dV_cells, nV_cells, lV_cells, cV_cells, cells_agg, cells_int, cells_bool, cells_slice, cells_ptr, cells_func, cells_str, cells_byteV, cells_wV, List.toList_toArray]; first | done | with_reducible rfl) (by simp) (by first | exact dcells_one _ | exact stV_one _ | exact shcells_one _ | exact mtcells_one _ | exact tcells_one _ | exact rcells_one _ | exact ncells_one _ | exact lcells_one _ | exact ccells_one _ | exact bytesV_one _ | exact ivc_one _ | (simp [Value.oneCell']; done)) (by (repeat (first | exact Upd.head _ | apply Upd.tail | apply Upd.app)); first | done | fail) (by simp) ?_); clear hM; intro w hM; (try simp only [nrm]))))
        exact ret_cell2 rfl hM rfl (by (repeat (first | exact mHd | apply mTl | apply mAp)); first | done | fail) (by simp) rfl rfl ⟨by first | (rw [if_neg hlen]; rfl) | rfl, hM.below⟩
set_option maxRecDepth 20000 in
set_option maxHeartbeats 800000 in
theorem climb_bad (d : Dig) (i n : Int) (A : Option Addr) (m c : Nat) (w0 : World) (hb : n < 1 ∨ 1099511627776 < n ∨ i < 0 ∨ n ≤ i) :
    Calls Tryd.prog 108 #[dV d, .int .i64 i, .int .i64 n, .slice A m c] w0 (RetP w0 (.tuple #[dV zeroDig, .int .i64 1])) := by
  have hM := Mem.refl w0 []
  go_enter Tryd.func108, Tryd.ntmps108
  rcases hb with hb | hb | hb | hb
  all_goals go_wp2_with ((first | (with_reducible refine arm_on0 ?_) | (with_reducible refine arm_on (by with_unfolding_all rfl) ?_)); (first | ((with_reducible refine arm_box hM (by simp only [evl, dV_cells, nV_cells, lV_cells, cV_cells, cells_agg, cells_int, cells_bool, cells_slice, cells_ptr, cells_func, cells_str, cells_byteV, cells_wV, List.toList_toArray]; first | done | with_reducible rfl) ?_); clear hM; intro db w hb hM; (try simp only [nrm])) | ((with_reducible refine arm_alloc hM ?_); clear hM; intro xb w hb hM; (try simp only [nrm])) | ((with_reducible refine arm_loadW hM (by simp only [evl]; first | done | with_reducible rfl) (by (repeat (first | exact mHd | apply mTl | apply mAp)); first | done | fail) (by first | (simp; done) | with_unfolding_all rfl) ?_); (try simp only [nrm])) | ((with_reducible refine arm_storeW hM (by simp only [evl]; first | done | with_reducible rfl) (by simp only [evl, dV_cells, nV_cells, lV_cells, cV_cells, cells_agg, cells_int, cells_bool, cells_slice, cells_ptr, cells_func, cells_str, cells_byteV, cells_wV, List.toList_toArray]; first | done | with_reducible rfl) (by simp) (by first | exact dcells_one _ | exact stV_one _ | exact shcells_one _ | exact mtcells_one _ | exact tcells_one _ | exact rcells_one _ | exact ncells_one _ | exact lcells_one _ | exact ccells_one _ | exact bytesV_one _ | exact ivc_one _ | (simp [Value.oneCell']; done)) (by (repeat (first | exact Upd.head _ | apply Upd.tail | apply Upd.app)); first | done | fail) (by simp) ?_); clear hM; intro w hM; (try simp only [nrm]))))
  all_goals exact ret_cell2 rfl hM rfl (by (repeat (first | exact mHd | apply mTl | apply mAp)); first | done | fail) (by simp) rfl rfl ⟨rfl, hM.below⟩

set_option maxHeartbeats 800000 in
theorem path_bad (A : Option Addr) (n c : Nat) (i : Int) (w0 : World) (hi : i < 0 ∨ (n : Int) ≤ i) :
    Calls Tryd.prog 107 #[.slice A n c, .int .i64 i] w0 fun e w' => e = .returned (.tuple #[.slice none 0 0, .int .i64 1]) ∧ w0 = w' := by
  go_enter Tryd.func107, Tryd.ntmps107
  rcases hi with hi | hi
  all_goals go_wp2_with ((first | (with_reducible refine arm_on0 ?_) | (with_reducible refine arm_on (by with_unfolding_all rfl) ?_)); (first | fail))
  all_goals go_ret2
  all_goals exact ⟨rfl, rfl⟩

section
open Go Go.RowKit

def climbR (d : Dig) (i n : Int) (p : List Dig) : Option Dig :=
  if 1 ≤ n ∧ n ≤ 1099511627776 ∧ 0 ≤ i ∧ i < n ∧ p.length = (dirs n.toNat i.toNat).length then some (climbD d i.toNat n.toNat p) else none
def climbV : Option Dig → Value
  | some x => .tuple #[dV x, .int .i64 0]
  | none => .tuple #[dV zeroDig, .int .i64 1]
theorem climb_full (d : Dig) (i n : Int) (A : Option Addr) (m c : Nat) (p : List Dig) (w0 : World) (hG : Glo w0) (h : SlD w0 A m c p) :
    Calls Tryd.prog 108 #[dV d, .int .i64 i, .int .i64 n, .slice A m c] w0 (RetP w0 (climbV (climbR d i n p))) := by
  by_cases hr : 1 ≤ n ∧ n ≤ 1099511627776 ∧ 0 ≤ i ∧ i < n
  · obtain ⟨h1, h2, h3, h4⟩ := hr
    have := climb_any d i.toNat n.toNat A m c p w0 hG h (by omega) (by omega)
    rw [show ((i.toNat : Nat) : Int) = i by omega, show ((n.toNat : Nat) : Int) = n by omega] at this
    by_cases hl : p.length = (dirs n.toNat i.toNat).length
    · rw [climbR, if_pos ⟨h1, h2, h3, h4, hl⟩]
      rw [if_pos hl] at this
      exact this
    · rw [climbR, if_neg (fun h => hl h.2.2.2.2)]
      rw [if_neg hl] at this
      exact this
  · rw [climbR, if_neg (fun h => hr ⟨h.1, h.2.1, h.2.2.1, h.2.2.2.1⟩)]
    exact climb_bad d i n A m c w0 (by omega)
end
end Go.Proofs.YtelnilllleempaaDoor
