/- Paths: slices.Reverse, Path, Climb. -/
import Derived.Test.YtelnilllleempaaDoorTree
namespace Go.Proofs.YtelnilllleempaaDoor
set_option linter.all false
open Go Go.RowKit

theorem dsV_append (a b : List Dig) : dsV (a ++ b) = dsV a ++ dsV b := by simp [dsV]
theorem dsV_snoc (a : List Dig) (t : Dig) : dsV (a ++ [t]) = dsV a ++ dcells t := by simp [dsV]
theorem dsV_one (l : List Dig) : ∀ u ∈ dsV l, u.oneCell' = true := fun u hu => by
  obtain ⟨d, _, h⟩ := List.mem_flatMap.1 hu; exact dcells_one d u h
/-- the cells of one element of a row -/
theorem dsV_cut (l : List Dig) (tl : List Value) (i : Nat) (hi : i < l.length) : ((dsV l ++ tl).drop (i * 32)).take 32 = dcells (l.getD i zeroDig) := by
  have hl := dsV_length l
  rw [List.drop_append_of_le_length (by omega), List.take_append_of_le_length (by simp; omega)]
  have := dsV_take (l.drop i) 1
  rw [Nat.one_mul] at this
  rw [dsV_drop, this, List.drop_eq_getElem_cons hi, List.take_succ_cons, List.take_zero, List.getD_eq_getElem?_getD, List.getElem?_eq_getElem hi]
  simp [dsV]
theorem dsV_set (l : List Dig) (tl : List Value) (i : Nat) (hi : i < l.length) (d : Dig) : splice (dsV l ++ tl) (i * 32) (dcells d) = dsV (l.set i d) ++ tl := by
  have hl := dsV_length l
  unfold splice
  rw [dcells_length, List.take_append_of_le_length (by omega), dsV_take, show i * 32 + 32 = (i + 1) * 32 by omega, List.drop_append_of_le_length (by omega), dsV_drop]
  rw [List.set_eq_take_append_cons_drop, if_pos hi, dsV_append]
  simp [dsV]

/-- what is swapped after i rounds -/
def revAt (l : List Dig) (i k : Nat) : Dig := if k < i ∨ l.length ≤ k + i then l.getD (l.length - 1 - k) zeroDig else l.getD k zeroDig

theorem getD_set (l : List Dig) (i k : Nat) (d : Dig) (hi : i < l.length) : (l.set i d).getD k zeroDig = if k = i then d else l.getD k zeroDig := by
  simp only [List.getD_eq_getElem?_getD, List.getElem?_set]
  split
  · subst_vars; simp
  · rename_i h; rw [if_neg (fun e => h e.symm)]

set_option maxRecDepth 20000 in
set_option maxHeartbeats 800000 in
theorem reverse_any (g n cap : Nat) (l : List Dig) (tl : List Value) (w0 : World) (hl : l.length = n) (hn : n ≤ 1000000) (hnc : n ≤ cap) (hcm : cap ≤ maxLen) (hm : HasE w0 (g, 25, dsV l ++ tl)) :
    Calls Tryd.prog 125 #[.slice (some ⟨g, 0, none⟩) n cap] w0 fun e w' => e = .returned (.tuple #[]) ∧ Mem w0 [g] [(g, 25, dsV l.reverse ++ tl)] w' := by
  have hM : Mem w0 [g] [(g, 25, dsV l ++ tl)] w0 := Mem.single hm
  go_enter Tryd.func125, Tryd.ntmps125
  go_wp2_with ((first | (with_reducible refine arm_on0 ?_) | (with_reducible refine arm_on (by with_unfolding_all rfl) ?_)); (first | fail))
  go_loopw [2, 3] (fun i j wr => ∃ (k : Nat) (l' : List Dig), 2 * k ≤ n + 1 ∧ i = .int .i64 k ∧ j = .int .i64 ((n : Int) - 1 - k) ∧ l'.length = n ∧ (∀ m, m < n → l'.getD m zeroDig = revAt l k m) ∧ Mem w0 [g] [(g, 25, dsV l' ++ tl)] wr) (fun i _ _ => n + 1 - (intOf i).toNat)
  case atStart => exact ⟨0, l, by omega, (by first | rfl | trivial | (congr 1; omega) | (congr 2; omega)), (by first | rfl | trivial | (congr 1; omega) | (congr 2; omega)), hl, fun m hm => by simp [revAt, show ¬ l.length ≤ m by omega], hM⟩
  case round =>
    clear hM
    obtain ⟨k, l', hk, rfl, rfl, hl', hrev, hM⟩ := hrel
    by_cases hkn : k + 1 < n - k
    · have e1 : ((n : Int) - 1 - k) = ((n - 1 - k : Nat) : Int) := by omega
      rw [e1]
      have hc1 := dsV_cut l' tl k (by omega)
      have hc2 := dsV_cut l' tl (n - 1 - k) (by omega)
      have hs1 := dsV_set l' tl k (by omega) (l'.getD (n - 1 - k) zeroDig)
      have hs2 := dsV_set (l'.set k (l'.getD (n - 1 - k) zeroDig)) tl (n - 1 - k) (by simp; omega) (l'.getD k zeroDig)
      have hl32 := dsV_length l'
      go_wp2_with ((first | (with_reducible refine arm_on0 ?_) | (with_reducible refine arm_on (by with_unfolding_all rfl) ?_)); (first | fail))
      (refine wpB.beginM 16 [13, 15] rfl (by kernel_rfl) hM ?_; clear hM; intro w hM; have hS := hM; refine wpB.tkW 0 (hS := (by first | exact fun _ => hS | exact fun h => absurd h (by decide +kernel))) (hy := fun w => by (go_simp; with_reducible rfl)) (h := ?_); (try simp only [nrm]); refine wpB.tkW 1 (hS := (by first | exact fun _ => hS | exact fun h => absurd h (by decide +kernel))) (hy := fun w => by (go_simp; with_reducible rfl)) (h := ?_); (try simp only [nrm]); refine wpB.tkW 2 (hS := (by first | exact fun _ => hS | exact fun h => absurd h (by decide +kernel))) (hy := fun w => by (go_simp; with_reducible rfl)) (h := ?_); (try simp only [nrm]); refine wpB.tkW 3 (hS := (by first | exact fun _ => hS | exact fun h => absurd h (by decide +kernel))) (hy := fun w => by (go_simp; with_reducible rfl)) (h := ?_); (try simp only [nrm]); refine wpB.tkW 4 (hS := (by first | exact fun _ => hS | exact fun h => absurd h (by decide +kernel))) (hy := fun w => by (go_simp; with_reducible rfl)) (h := ?_); (try simp only [nrm]); refine wpB.tkW 5 (hS := (by first | exact fun _ => hS | exact fun h => absurd h (by decide +kernel))) (hy := fun w => by (go_simp; with_reducible rfl)) (h := ?_); (try simp only [nrm]); refine wpB.tkW 6 (hS := (by first | exact fun _ => hS | exact fun h => absurd h (by decide +kernel))) (hy := fun w => by first | ((first | with_reducible exact rx_loadN hS (by simp only [evl]; first | done | with_reducible rfl) (by (repeat (first | exact mHd | apply mTl | apply mAp)); first | done | fail) (by exact hc1) (by simp) | with_reducible exact rx_loadN hS (by simp only [evl]; first | done | with_reducible rfl) (by (repeat (first | exact mHd | apply mTl | apply mAp)); first | done | fail) (by exact hc2) (by simp))) | (go_simp; first | with_reducible rfl | (refine (if_pos ?_).trans ?_; (omega); with_reducible rfl) | (refine (if_neg ?_).trans ?_; (omega); with_reducible rfl))) (h := ?_); (try simp only [nrm]); refine wpB.tk 7 (hS := hS) (hy := fun w hS => by first | ((first | with_reducible exact rx_loadN hS (by simp only [evl]; first | done | with_reducible rfl) (by (repeat (first | exact mHd | apply mTl | apply mAp)); first | done | fail) (by exact hc1) (by simp) | with_reducible exact rx_loadN hS (by simp only [evl]; first | done | with_reducible rfl) (by (repeat (first | exact mHd | apply mTl | apply mAp)); first | done | fail) (by exact hc2) (by simp))) | with_reducible exact rx_load1 hS (by simp only [evl]; first | done | with_reducible rfl) (by (repeat (first | exact mHd | apply mTl | apply mAp)); first | done | fail) (by first | (with_unfolding_all rfl) | (simp; done)) | with_reducible exact rx_loadW hS (by simp only [evl]; first | done | with_reducible rfl) (by (repeat (first | exact mHd | apply mTl | apply mAp)); first | done | fail) (by first | (simp; done) | with_unfolding_all rfl) | with_reducible exact rx_loadN hS (by simp only [evl]; first | done | with_reducible rfl) (by (repeat (first | exact mHd | apply mTl | apply mAp)); first | done | fail) (by first | (with_unfolding_all rfl) | (simp; done)) (by simp)) (h := ?_); (try simp only [nrm]); refine wpB.tkW 8 (hS := (by first | exact fun _ => hS | exact fun h => absurd h (by decide +kernel))) (hy := fun w => by (go_simp; with_reducible rfl)) (h := ?_); (try simp only [nrm]); refine wpB.tkW 9 (hS := (by first | exact fun _ => hS | exact fun h => absurd h (by decide +kernel))) (hy := fun w => by (go_simp; with_reducible rfl)) (h := ?_); (try simp only [nrm]); refine wpB.tkW 10 (hS := (by first | exact fun _ => hS | exact fun h => absurd h (by decide +kernel))) (hy := fun w => by first | ((first | with_reducible exact rx_loadN hS (by simp only [evl]; first | done | with_reducible rfl) (by (repeat (first | exact mHd | apply mTl | apply mAp)); first | done | fail) (by exact hc1) (by simp) | with_reducible exact rx_loadN hS (by simp only [evl]; first | done | with_reducible rfl) (by (repeat (first | exact mHd | apply mTl | apply mAp)); first | done | fail) (by exact hc2) (by simp))) | (go_simp; first | with_reducible rfl | (refine (if_pos ?_).trans ?_; (omega); with_reducible rfl) | (refine (if_neg ?_).trans ?_; (omega); with_reducible rfl))) (h := ?_); (try simp only [nrm]); refine wpB.tk 11 (hS := hS) (hy := fun w hS => by first | ((first | with_reducible exact rx_loadN hS (by simp only [evl]; first | done | with_reducible rfl) (by (repeat (first | exact mHd | apply mTl | apply mAp)); first | done | fail) (by exact hc1) (by simp) | with_reducible exact rx_loadN hS (by simp only [evl]; first | done | with_reducible rfl) (by (repeat (first | exact mHd | apply mTl | apply mAp)); first | done | fail) (by exact hc2) (by simp))) | with_reducible exact rx_load1 hS (by simp only [evl]; first | done | with_reducible rfl) (by (repeat (first | exact mHd | apply mTl | apply mAp)); first | done | fail) (by first | (with_unfolding_all rfl) | (simp; done)) | with_reducible exact rx_loadW hS (by simp only [evl]; first | done | with_reducible rfl) (by (repeat (first | exact mHd | apply mTl | apply mAp)); first | done | fail) (by first | (simp; done) | with_unfolding_all rfl) | with_reducible exact rx_loadN hS (by simp only [evl]; first | done | with_reducible rfl) (by (repeat (first | exact mHd | apply mTl | apply mAp)); first | done | fail) (by first | (with_unfolding_all rfl) | (simp; done)) (by simp)) (h := ?_); (try simp only [nrm]); refine wpB.tkW 12 (hS := (by first | exact fun _ => hS | exact fun h => absurd h (by decide +kernel))) (hy := fun w => by first | ((first | with_reducible exact rx_loadN hS (by simp only [evl]; first | done | with_reducible rfl) (by (repeat (first | exact mHd | apply mTl | apply mAp)); first | done | fail) (by exact hc1) (by simp) | with_reducible exact rx_loadN hS (by simp only [evl]; first | done | with_reducible rfl) (by (repeat (first | exact mHd | apply mTl | apply mAp)); first | done | fail) (by exact hc2) (by simp))) | (go_simp; first | with_reducible rfl | (refine (if_pos ?_).trans ?_; (omega); with_reducible rfl) | (refine (if_neg ?_).trans ?_; (omega); with_reducible rfl))) (h := ?_); (try simp only [nrm]); refine wpB.only 13 (by simp only [List.getElem?_toArray, List.getElem?_cons_succ, List.getElem?_cons_zero]; with_reducible rfl) (by kernel_rfl) (by with_unfolding_all rfl) ?_; ((with_reducible refine arm_store (n := 32) IsRow.size hM (by simp only [evl]; first | done | with_reducible rfl) (by simp only [evl, dV_cells, nV_cells, lV_cells, cV_cells, cells_agg, cells_int, cells_bool, cells_slice, cells_ptr, cells_func, cells_str, cells_byteV, cells_wV, List.toList_toArray]; first | done | with_reducible rfl) (by first | (simp; done) | with_unfolding_all rfl) (by first | exact dcells_one _ | exact stV_one _ | exact shcells_one _ | exact mtcells_one _ | exact tcells_one _ | exact rcells_one _ | exact ncells_one _ | exact lcells_one _ | exact ccells_one _ | exact bytesV_one _ | exact ivc_one _ | (simp [Value.oneCell']; done)) (by (repeat (first | exact Upd.head _ | apply Upd.tail | apply Upd.app)); first | done | fail) (by rw [List.length_append]; omega) (hs1) ?_); clear hM; intro w hM; (try simp only [nrm])); (clear hS; have hS := hM; refine ⟨fun h => absurd h (by decide +kernel), ?_⟩); refine wpB.tkW 14 (hS := (by first | exact fun _ => hS | exact fun h => absurd h (by decide +kernel))) (hy := fun w => by first | ((first | with_reducible exact rx_loadN hS (by simp only [evl]; first | done | with_reducible rfl) (by (repeat (first | exact mHd | apply mTl | apply mAp)); first | done | fail) (by exact hc1) (by simp) | with_reducible exact rx_loadN hS (by simp only [evl]; first | done | with_reducible rfl) (by (repeat (first | exact mHd | apply mTl | apply mAp)); first | done | fail) (by exact hc2) (by simp))) | (go_simp; first | with_reducible rfl | (refine (if_pos ?_).trans ?_; (omega); with_reducible rfl) | (refine (if_neg ?_).trans ?_; (omega); with_reducible rfl))) (h := ?_); (try simp only [nrm]); refine wpB.only 15 (by simp only [List.getElem?_toArray, List.getElem?_cons_succ, List.getElem?_cons_zero]; with_reducible rfl) (by kernel_rfl) (by with_unfolding_all rfl) ?_; ((with_reducible refine arm_store (n := 32) IsRow.size hM (by simp only [evl]; first | done | with_reducible rfl) (by simp only [evl, dV_cells, nV_cells, lV_cells, cV_cells, cells_agg, cells_int, cells_bool, cells_slice, cells_ptr, cells_func, cells_str, cells_byteV, cells_wV, List.toList_toArray]; first | done | with_reducible rfl) (by first | (simp; done) | with_unfolding_all rfl) (by first | exact dcells_one _ | exact stV_one _ | exact shcells_one _ | exact mtcells_one _ | exact tcells_one _ | exact rcells_one _ | exact ncells_one _ | exact lcells_one _ | exact ccells_one _ | exact bytesV_one _ | exact ivc_one _ | (simp [Value.oneCell']; done)) (by (repeat (first | exact Upd.head _ | apply Upd.tail | apply Upd.app)); first | done | fail) (by rw [List.length_append, dsV_length]; simp; omega) (hs2) ?_); clear hM; intro w hM; (try simp only [nrm])); (clear hS; have hS := hM; refine ⟨fun h => absurd h (by decide +kernel), ?_⟩); refine wpB.done (by kernel_rfl) ?_ _)
      go_wp2_with ((first | (with_reducible refine arm_on0 ?_) | (with_reducible refine arm_on (by with_unfolding_all rfl) ?_)); (first | fail))
      go_roundw
      case rel => exact ⟨k + 1, _, by omega, (by first | rfl | trivial | (congr 1; omega) | (congr 2; omega)), (by first | rfl | trivial | (congr 1; omega) | (congr 2; omega)), by simp [hl'], fun m hm => by
        rw [getD_set _ _ _ _ (by simp; omega), getD_set _ _ _ _ (by omega)]
        by_cases h1 : m = n - 1 - k
        · rw [if_pos h1, hrev k (by omega)]
          unfold revAt
          rw [if_neg (by omega), if_pos (by omega)]
          congr 1; omega
        · rw [if_neg h1]
          by_cases h2 : m = k
          · rw [if_pos h2, hrev (n - 1 - k) (by omega)]
            unfold revAt
            rw [if_neg (by omega), if_pos (by omega)]
            congr 1; omega
          · rw [if_neg h2, hrev m hm]
            unfold revAt
            by_cases h3 : m < k ∨ l.length ≤ m + k
            · rw [if_pos h3, if_pos (by omega)]
            · rw [if_neg h3, if_neg (by omega)], hM⟩
      case measure => simp [intOf]; omega
    · have hlr : l' = l.reverse := by
        apply List.ext_getElem (by simp [hl, hl'])
        intro m h1 h2
        have h3 := hrev m (by omega)
        rw [List.getElem_reverse]
        have e1 : l'.getD m zeroDig = l'[m] := by simp [List.getD_eq_getElem?_getD, List.getElem?_eq_getElem h1]
        rw [← e1, h3]
        unfold revAt
        have h4 : ∀ j (hj : j < l.length), l.getD j zeroDig = l[j] := fun j hj => by simp [List.getD_eq_getElem?_getD, List.getElem?_eq_getElem hj]
        by_cases h5 : m < k ∨ l.length ≤ m + k
        · rw [if_pos h5, h4 _ (by omega)]
        · rw [if_neg h5, h4 _ (by omega)]
          congr 1; omega
      subst hlr
      go_wp2_with ((first | (with_reducible refine arm_on0 ?_) | (with_reducible refine arm_on (by with_unfolding_all rfl) ?_)); (first | fail))
      go_end0
      exact ⟨(by first | rfl | trivial | (congr 1; omega) | (congr 2; omega)), hM⟩
set_option maxHeartbeats 400000 in
theorem reverse_nil_any (w0 : World) : Calls Tryd.prog 125 #[.slice none 0 0] w0 fun e w' => e = .returned (.tuple #[]) ∧ w0 = w' := by
  go_enter Tryd.func125, Tryd.ntmps125
  go_wp2_with ((first | (with_reducible refine arm_on0 ?_) | (with_reducible refine arm_on (by with_unfolding_all rfl) ?_)); (first | fail))
  go_loopw [2, 3] (fun i j wr => i = .int .i64 0 ∧ j = .int .i64 (-1) ∧ wr = w0) (fun i _ _ => 0)
  case atStart => exact ⟨rfl, rfl, rfl⟩
  case round =>
    obtain ⟨rfl, rfl, rfl⟩ := hrel
    go_wp2_with ((first | (with_reducible refine arm_on0 ?_) | (with_reducible refine arm_on (by with_unfolding_all rfl) ?_)); (first | fail))
    go_end0
    exact ⟨(by first | rfl | trivial | (congr 1; omega) | (congr 2; omega)), (by first | rfl | trivial | (congr 1; omega) | (congr 2; omega))⟩

/-- the path to a place, from the top down -/
def pathF : Nat → List Dig → Nat → List Dig
  | 0, _, _ => []
  | f + 1, l, at_ => if l.length ≤ 1 then [] else if at_ < halfN l.length then treeD (l.drop (halfN l.length)) :: pathF f (l.take (halfN l.length)) at_ else treeD (l.take (halfN l.length)) :: pathF f (l.drop (halfN l.length)) (at_ - halfN l.length)
theorem pathF_any : ∀ (f g : Nat) (l : List Dig) (i : Nat), l.length ≤ f → l.length ≤ g → l.length ≤ 1000000000 → pathF f l i = pathF g l i
  | 0, 0, _, _, _, _, _ => rfl
  | 0, g + 1, l, i, h, _, _ => by
    have : l.length ≤ 1 := by omega
    simp [pathF, this]
  | f + 1, 0, l, i, _, h, _ => by
    have : l.length ≤ 1 := by omega
    simp [pathF, this]
  | f + 1, g + 1, l, i, h1, h2, h3 => by
    simp only [pathF]
    split
    · rfl
    · have := halfN_lt l.length (by omega) (by omega)
      split
      · rw [pathF_any f g (l.take _) i (by simp; omega) (by simp; omega) (by simp; omega)]
      · rw [pathF_any f g (l.drop _) _ (by simp; omega) (by simp; omega) (by simp; omega)]
def pathL (l : List Dig) (i : Nat) : List Dig := pathF l.length l i
def pathD (l : List Dig) (i : Nat) : List Dig := (pathL l i).reverse
theorem pathL_one (l : List Dig) (i : Nat) (h : l.length ≤ 1) : pathL l i = [] := by
  unfold pathL
  obtain h0 | h0 : l.length = 0 ∨ l.length = 1 := by omega
  · rw [h0]; rfl
  · rw [h0]; simp [pathF, h0]
theorem pathL_more (l : List Dig) (i : Nat) (h : 2 ≤ l.length) (h3 : l.length ≤ 1000000000) : pathL l i = if i < halfN l.length then treeD (l.drop (halfN l.length)) :: pathL (l.take (halfN l.length)) i else treeD (l.take (halfN l.length)) :: pathL (l.drop (halfN l.length)) (i - halfN l.length) := by
  have hh := halfN_lt l.length h (by omega)
  unfold pathL
  obtain ⟨f, hf⟩ : ∃ f, l.length = f + 1 := ⟨l.length - 1, by omega⟩
  rw [show pathF l.length l i = pathF (f + 1) l i by rw [hf]]
  conv => lhs; unfold pathF
  rw [if_neg (by omega), pathF_any f (l.take (halfN l.length)).length _ _ (by simp; omega) (Nat.le_refl _) (by simp; omega), pathF_any f (l.drop (halfN l.length)).length _ _ (by simp; omega) (Nat.le_refl _) (by simp; omega)]

set_option maxRecDepth 20000 in
set_option maxHeartbeats 1600000 in
theorem path_any (A : Option Addr) (n c : Nat) (l : List Dig) (i : Nat) (w0 : World) (hG : Glo w0) (h : SlD w0 A n c l) (hn : n ≤ 1000000) (hi : i < n) :
    Calls Tryd.prog 107 #[.slice A n c, .int .i64 (i : Int)] w0 fun e w' => ∃ v ho, e = .returned (.tuple #[v, .int .i64 0]) ∧ Own 25 32 v (pathD l i).length (dsV (pathD l i)) ho ∧ Mem w0 [] ho w' := by
  have hM := Mem.refl w0 []
  go_enter Tryd.func107, Tryd.ntmps107
  go_wp2_with ((first | (with_reducible refine arm_on0 ?_) | (with_reducible refine arm_on (by with_unfolding_all rfl) ?_)); (first | fail))
  go_loopw [0, 1, 4] (fun v0 v1 v4 wr => ∃ (A' : Option Addr) (n' c' : Nat) (l' : List Dig) (i' : Nat) (acc : List Dig) (ho : List Ent), v0 = .slice A' n' c' ∧ v1 = .int .i64 i' ∧ SlD w0 A' n' c' l' ∧ i' < n' ∧ acc.length + n' ≤ n ∧ Own 25 32 v4 acc.length (dsV acc) ho ∧ Mem w0 [] ho wr ∧ acc ++ pathL l' i' = pathL l i) (fun v0 _ _ _ => lenV v0)
  case atStart => exact ⟨A, n, c, l, i, [], [], (by first | rfl | trivial | (congr 1; omega) | (congr 2; omega)), (by first | rfl | trivial | (congr 1; omega) | (congr 2; omega)), h, hi, by simp, .nil, hM, rfl⟩
  case round =>
    clear hM
    obtain ⟨A', n', c', l', i', acc, ho, rfl, rfl, h', hi', hacc, hO, hM, hp⟩ := hrel
    have hl := h'.lenD
    by_cases h2 : 2 ≤ n'
    · obtain ⟨b0, o, rfl, hr⟩ := h'.at_ (by omega)
      have hh := halfN_lt n' (by omega) (by omega)
      have hc1 := h'.le
      have hcut := h'.cut (p := c' = halfN n') (halfN n') (by omega) Iff.rfl
      have hhead := h'.head (halfN n') (by omega)
      rw [dsV_drop] at hcut
      rw [dsV_take] at hhead
      have hm := pathL_more l' i' (by omega) (by omega)
      rw [hl] at hm
      have e1 : IntKind.i64.wrap ((i' : Int) - (halfN n' : Nat)) = ((i' : Int) - (halfN n' : Nat)) := by rw [IntKind.wrap_i64]; omega
      by_cases hlt : i' < halfN n'
      · rw [if_pos hlt] at hm
        go_wp2_with ((first | (with_reducible refine arm_on0 ?_) | (with_reducible refine arm_on (by with_unfolding_all rfl) ?_)); (first | ((with_reducible refine arm_callW (half_any n' (by omega) (by omega) _) (by simp only [evl]; first | done | with_reducible rfl) (by with_unfolding_all rfl) ?_); (try simp only [nrm]))))
        (refine wpB.beginM 12 [4, 5, 6] rfl (by kernel_rfl) hM ?_; clear hM; intro w hM; have hS := hM; refine wpB.tkW 0 (hS := (by first | exact fun _ => hS | exact fun h => absurd h (by decide +kernel))) (hy := fun w => by (go_simp; with_reducible rfl)) (h := ?_); (try simp only [nrm]); refine wpB.tkW 1 (hS := (by first | exact fun _ => hS | exact fun h => absurd h (by decide +kernel))) (hy := fun w => by (go_simp; with_reducible rfl)) (h := ?_); (try simp only [nrm]); refine wpB.tkW 2 (hS := (by first | exact fun _ => hS | exact fun h => absurd h (by decide +kernel))) (hy := fun w => by (go_simp; with_reducible rfl)) (h := ?_); (try simp only [nrm]); refine wpB.tkW 3 (hS := (by first | exact fun _ => hS | exact fun h => absurd h (by decide +kernel))) (hy := fun w => by (go_simp; first | with_reducible rfl | (refine (if_pos ?_).trans ?_; (omega); with_reducible rfl) | (refine (if_neg ?_).trans ?_; (omega); with_reducible rfl))) (h := ?_); (try simp only [nrm]); refine wpB.tkW 7 (hS := (by first | exact fun _ => hS | exact fun h => absurd h (by decide +kernel))) (hy := fun w => by (go_simp; with_reducible rfl)) (h := ?_); (try simp only [nrm]); refine wpB.tkW 8 (hS := (by first | exact fun _ => hS | exact fun h => absurd h (by decide +kernel))) (hy := fun w => by (go_simp; with_reducible rfl)) (h := ?_); (try simp only [nrm]); refine wpB.tkW 9 (hS := (by first | exact fun _ => hS | exact fun h => absurd h (by decide +kernel))) (hy := fun w => by (go_simp; first | with_reducible rfl | (refine (if_pos ?_).trans ?_; (omega); with_reducible rfl) | (refine (if_neg ?_).trans ?_; (omega); with_reducible rfl))) (h := ?_); (try simp only [nrm]); refine wpB.only 4 (by simp only [List.getElem?_toArray, List.getElem?_cons_succ, List.getElem?_cons_zero]; with_reducible rfl) (by kernel_rfl) (by with_unfolding_all rfl) ?_; ((with_reducible refine arm_call hM (tree_any _ _ _ _ _ _ (Nat.le_refl _) (hM.glo hG) (hM.sl hcut) (by omega)) (by simp only [evl]; first | done | with_reducible rfl) (by with_unfolding_all rfl) ?_); clear hM; intro w hM; (try simp only [nrm])); (clear hS; have hS := hM; refine ⟨fun h => absurd h (by decide +kernel), ?_⟩); refine wpB.only 5 (by simp only [List.getElem?_toArray, List.getElem?_cons_succ, List.getElem?_cons_zero]; with_reducible rfl) (by kernel_rfl) (by with_unfolding_all rfl) ?_; ((with_reducible refine arm_buildSlice hM (by with_unfolding_all rfl) (by simp only [List.map_cons, List.map_nil]; simp only [evl, dV_cells, nV_cells, lV_cells, cV_cells, cells_agg, cells_int, cells_bool, cells_slice, cells_ptr, cells_func, cells_str, cells_byteV, cells_wV, List.toList_toArray]; simp only [List.flatten_cons, List.flatten_nil, List.append_nil, List.cons_append, List.nil_append]; with_reducible rfl) (by intro p hp; simp only [List.mem_cons, List.not_mem_nil, or_false] at hp; rcases hp with rfl <;> (simp only [evl, dV_cells, nV_cells, lV_cells, cV_cells, cells_agg, cells_int, cells_bool, cells_slice, cells_ptr, cells_func, cells_str, cells_byteV, cells_wV]; simp)) (by decide) ?_); clear hM; intro b w hb hM; (try simp only [nrm])); replace hM := hM.perm (List.perm_append_singleton _ _); (clear hS; have hS := hM; refine ⟨fun h => absurd h (by decide +kernel), ?_⟩); refine wpB.only 6 (by simp only [List.getElem?_toArray, List.getElem?_cons_succ, List.getElem?_cons_zero]; with_reducible rfl) (by kernel_rfl) (by with_unfolding_all rfl) ?_; ((with_reducible refine arm_append_own (ho := ho) (hs := _) hO hM (by simp only [evl]; first | done | with_reducible rfl) (by simp only [evl]; first | done | with_reducible rfl) (hM.sl_ent (List.mem_append_right _ List.mem_cons_self) 0 (n := 1) (c := 1) (size := 32) (xs := dcells (treeD (l'.drop (halfN n')))) (by rw [List.drop_zero, List.take_of_length_le (by simp)]) (by simp) (by omega) (by decide)) (dcells_one _) (by omega) (by unfold maxLen; omega) ?_); clear hM; intro v ho w hO hM; (try simp only [nrm])); replace hM := hM.sub (List.sublist_append_left _ _); (clear hS; have hS := hM; refine ⟨fun h => absurd h (by decide +kernel), ?_⟩); refine wpB.tkW 10 (hS := (by first | exact fun _ => hS | exact fun h => absurd h (by decide +kernel))) (hy := fun w => by (go_simp; with_reducible rfl)) (h := ?_); (try simp only [nrm]); refine wpB.tkW 11 (hS := (by first | exact fun _ => hS | exact fun h => absurd h (by decide +kernel))) (hy := fun w => by (go_simp; with_reducible rfl)) (h := ?_); (try simp only [nrm]); refine wpB.done (by kernel_rfl) ?_ _)
        go_wp2_with ((first | (with_reducible refine arm_on0 ?_) | (with_reducible refine arm_on (by with_unfolding_all rfl) ?_)); (first | fail))
        go_roundw
        case rel => exact ⟨_, _, _, _, i', acc ++ [treeD (l'.drop (halfN n'))], ho, rfl, (by first | rfl | trivial | (congr 1; omega) | (congr 2; omega)), hhead, hlt, by rw [List.length_append, List.length_singleton]; omega, by rw [dsV_snoc, List.length_append]; exact hO, hM, by rw [← hp, hm]; simp⟩
        case measure => simp only [lenV]; omega
      · rw [if_neg hlt] at hm
        go_wp2_with ((first | (with_reducible refine arm_on0 ?_) | (with_reducible refine arm_on (by with_unfolding_all rfl) ?_)); (first | ((with_reducible refine arm_callW (half_any n' (by omega) (by omega) _) (by simp only [evl]; first | done | with_reducible rfl) (by with_unfolding_all rfl) ?_); (try simp only [nrm]))))
        (refine wpB.beginM 16 [4, 5, 6] rfl (by kernel_rfl) hM ?_; clear hM; intro w hM; have hS := hM; refine wpB.tkW 0 (hS := (by first | exact fun _ => hS | exact fun h => absurd h (by decide +kernel))) (hy := fun w => by (go_simp; with_reducible rfl)) (h := ?_); (try simp only [nrm]); refine wpB.tkW 1 (hS := (by first | exact fun _ => hS | exact fun h => absurd h (by decide +kernel))) (hy := fun w => by (go_simp; with_reducible rfl)) (h := ?_); (try simp only [nrm]); refine wpB.tkW 2 (hS := (by first | exact fun _ => hS | exact fun h => absurd h (by decide +kernel))) (hy := fun w => by (go_simp; with_reducible rfl)) (h := ?_); (try simp only [nrm]); refine wpB.tkW 3 (hS := (by first | exact fun _ => hS | exact fun h => absurd h (by decide +kernel))) (hy := fun w => by (go_simp; first | with_reducible rfl | (refine (if_pos ?_).trans ?_; (omega); with_reducible rfl) | (refine (if_neg ?_).trans ?_; (omega); with_reducible rfl))) (h := ?_); (try simp only [nrm]); refine wpB.tkW 7 (hS := (by first | exact fun _ => hS | exact fun h => absurd h (by decide +kernel))) (hy := fun w => by (go_simp; with_reducible rfl)) (h := ?_); (try simp only [nrm]); refine wpB.tkW 8 (hS := (by first | exact fun _ => hS | exact fun h => absurd h (by decide +kernel))) (hy := fun w => by (go_simp; with_reducible rfl)) (h := ?_); (try simp only [nrm]); refine wpB.tkW 9 (hS := (by first | exact fun _ => hS | exact fun h => absurd h (by decide +kernel))) (hy := fun w => by (go_simp; first | with_reducible rfl | (refine (if_pos ?_).trans ?_; (omega); with_reducible rfl) | (refine (if_neg ?_).trans ?_; (omega); with_reducible rfl))) (h := ?_); (try simp only [nrm]); refine wpB.tkW 10 (hS := (by first | exact fun _ => hS | exact fun h => absurd h (by decide +kernel))) (hy := fun w => by (go_simp; with_reducible rfl)) (h := ?_); (try simp only [nrm]); refine wpB.tkW 11 (hS := (by first | exact fun _ => hS | exact fun h => absurd h (by decide +kernel))) (hy := fun w => by (go_simp; with_reducible rfl)) (h := ?_); (try simp only [nrm]); refine wpB.tkW 12 (hS := (by first | exact fun _ => hS | exact fun h => absurd h (by decide +kernel))) (hy := fun w => by (go_simp; first | with_reducible rfl | (refine (if_pos ?_).trans ?_; (omega); with_reducible rfl) | (refine (if_neg ?_).trans ?_; (omega); with_reducible rfl))) (h := ?_); (try simp only [nrm]); refine wpB.only 4 (by simp only [List.getElem?_toArray, List.getElem?_cons_succ, List.getElem?_cons_zero]; with_reducible rfl) (by kernel_rfl) (by with_unfolding_all rfl) ?_; ((with_reducible refine arm_call hM (tree_any _ _ _ _ _ _ (Nat.le_refl _) (hM.glo hG) (hM.sl hhead) (by omega)) (by simp only [evl]; first | done | with_reducible rfl) (by with_unfolding_all rfl) ?_); clear hM; intro w hM; (try simp only [nrm])); (clear hS; have hS := hM; refine ⟨fun h => absurd h (by decide +kernel), ?_⟩); refine wpB.only 5 (by simp only [List.getElem?_toArray, List.getElem?_cons_succ, List.getElem?_cons_zero]; with_reducible rfl) (by kernel_rfl) (by with_unfolding_all rfl) ?_; ((with_reducible refine arm_buildSlice hM (by with_unfolding_all rfl) (by simp only [List.map_cons, List.map_nil]; simp only [evl, dV_cells, nV_cells, lV_cells, cV_cells, cells_agg, cells_int, cells_bool, cells_slice, cells_ptr, cells_func, cells_str, cells_byteV, cells_wV, List.toList_toArray]; simp only [List.flatten_cons, List.flatten_nil, List.append_nil, List.cons_append, List.nil_append]; with_reducible rfl) (by intro p hp; simp only [List.mem_cons, List.not_mem_nil, or_false] at hp; rcases hp with rfl <;> (simp only [evl, dV_cells, nV_cells, lV_cells, cV_cells, cells_agg, cells_int, cells_bool, cells_slice, cells_ptr, cells_func, cells_str, cells_byteV, cells_wV]; simp)) (by decide) ?_); clear hM; intro b w hb hM; (try simp only [nrm])); replace hM := hM.perm (List.perm_append_singleton _ _); (clear hS; have hS := hM; refine ⟨fun h => absurd h (by decide +kernel), ?_⟩); refine wpB.only 6 (by simp only [List.getElem?_toArray, List.getElem?_cons_succ, List.getElem?_cons_zero]; with_reducible rfl) (by kernel_rfl) (by with_unfolding_all rfl) ?_; ((with_reducible refine arm_append_own (ho := ho) (hs := _) hO hM (by simp only [evl]; first | done | with_reducible rfl) (by simp only [evl]; first | done | with_reducible rfl) (hM.sl_ent (List.mem_append_right _ List.mem_cons_self) 0 (n := 1) (c := 1) (size := 32) (xs := dcells (treeD (l'.take (halfN n')))) (by rw [List.drop_zero, List.take_of_length_le (by simp)]) (by simp) (by omega) (by decide)) (dcells_one _) (by omega) (by unfold maxLen; omega) ?_); clear hM; intro v ho w hO hM; (try simp only [nrm])); replace hM := hM.sub (List.sublist_append_left _ _); (clear hS; have hS := hM; refine ⟨fun h => absurd h (by decide +kernel), ?_⟩); refine wpB.tkW 13 (hS := (by first | exact fun _ => hS | exact fun h => absurd h (by decide +kernel))) (hy := fun w => by (go_simp; with_reducible rfl)) (h := ?_); (try simp only [nrm]); refine wpB.tkW 14 (hS := (by first | exact fun _ => hS | exact fun h => absurd h (by decide +kernel))) (hy := fun w => by (go_simp; with_reducible rfl)) (h := ?_); (try simp only [nrm]); refine wpB.tkW 15 (hS := (by first | exact fun _ => hS | exact fun h => absurd h (by decide +kernel))) (hy := fun w => by (go_simp; with_reducible rfl)) (h := ?_); (try simp only [nrm]); refine wpB.done (by kernel_rfl) ?_ _)
        go_wp2_with ((first | (with_reducible refine arm_on0 ?_) | (with_reducible refine arm_on (by with_unfolding_all rfl) ?_)); (first | fail))
        go_roundw
        case rel => exact ⟨_, _, _, _, i' - halfN n', acc ++ [treeD (l'.take (halfN n'))], ho, rfl, (by first | rfl | trivial | (congr 1; omega) | (congr 2; omega)), hcut, by omega, by rw [List.length_append, List.length_singleton]; omega, by rw [dsV_snoc, List.length_append]; exact hO, hM, by rw [← hp, hm]; simp⟩
        case measure => simp only [lenV]; omega
    · have hacc2 : acc = pathL l i := by rw [← hp, pathL_one l' i' (by omega)]; simp
      subst hacc2
      obtain ⟨rfl, h1, h2, rfl⟩ | ⟨g, cap, tl, rfl, hnc, hcm, hx, ht, rfl⟩ := hO.cases'
      · go_wp2_with ((first | (with_reducible refine arm_on0 ?_) | (with_reducible refine arm_on (by with_unfolding_all rfl) ?_)); (first | ((with_reducible refine arm_callW (reverse_nil_any _) (by simp only [evl]; first | done | with_reducible rfl) (by with_unfolding_all rfl) ?_); (try simp only [nrm]))))
        have hpn : pathL l i = [] := List.eq_nil_of_length_eq_zero h1
        go_ret2
        refine ⟨_, [], rfl, ?_, hM⟩
        rw [pathD, hpn]
        exact .nil
      · go_wp2_with ((first | (with_reducible refine arm_on0 ?_) | (with_reducible refine arm_on (by with_unfolding_all rfl) ?_)); (first | ((with_reducible refine arm_callX hM (reverse_any g _ cap (pathL l i) tl _ rfl (by omega) hnc hcm (hM.has _ List.mem_cons_self)) (by simp only [evl]; first | done | with_reducible rfl) (by with_unfolding_all rfl) (by (repeat (first | exact Upd.head _ | apply Upd.tail | apply Upd.app)); first | done | fail) ?_); clear hM; intro w hM; (try simp only [nrm]))))
        go_ret2
        refine ⟨_, _, rfl, ?_, hM⟩
        have : (pathD l i).length = (pathL l i).length := by simp [pathD]
        rw [this]
        exact .row g _ cap _ tl hnc hcm (by rw [dsV_length, this]) ht
end Go.Proofs.YtelnilllleempaaDoor
