/- What is hashed for a leaf; the sides of a way: the laws' own functions. -/
import Derived.Test.YtelnilllleempaaDoorShown42
import Derived.Test.YtelnilllleempaaDoorCollide
namespace Go.Proofs.YtelnilllleempaaDoor
set_option linter.all false
open Go Go.RowKit

/-- what is asked for is that some blocks are as they are, till one of U has run -/
theorem wpB.beginHU {P : Program} {ops : Array Oper} {Q : Exit → Act → World → Prop} {id : Nat} {a : Act} {w0 w : World} {X : List Nat} {hs : List Ent} (n : Nat) (L : List Ent) (U : List Nat) (hn : ops.size = n) (hm : P.follows .mixedOrders = true) (hM : Mem w0 X hs w)
    (h : ∀ w', Mem w0 X hs w' → wpB P .any ops Q (fun w' => ∀ e ∈ L, HasE w' e) U n (Array.replicate n false) a w') : (Code.region id ops true).wp P Q a w :=
  wp_region_any hm (wpB.any _ _ _ _ (by rw [hn]; exact h _ hM.drew))

theorem flag_any (b : Bool) (w0 : World) : Calls Tryd.prog 35 #[.bool b] w0 fun e w' => e = .returned (.int .i64 (if b then 1 else 0)) ∧ w0 = w' := by
  cases b
  · go_enter Tryd.func35, Tryd.ntmps35
    go_wp2_with ((first | (with_reducible refine arm_on0 ?_) | (with_reducible refine arm_on (by with_unfolding_all rfl) ?_)); (first | fail))
    go_ret
    exact ⟨rfl, rfl⟩
  · go_enter Tryd.func35, Tryd.ntmps35
    go_wp2_with ((first | (with_reducible refine arm_on0 ?_) | (with_reducible refine arm_on (by with_unfolding_all rfl) ?_)); (first | fail))
    go_ret
    exact ⟨rfl, rfl⟩

set_option maxHeartbeats 800000 in
theorem number_any (m : Nat) (w0 : World) : Calls Tryd.prog 71 #[.int .i64 (m : Int)] w0 (RetP w0 (.agg (ivc m).toArray)) := by
  have hM := Mem.refl w0 []
  go_enter Tryd.func71, Tryd.ntmps71
  go_wp2_with ((first | (with_reducible refine arm_on0 ?_) | (with_reducible refine arm_on (by with_unfolding_all rfl) ?_)); (first | (((with_reducible refine arm_alloc hM ?_); clear hM; intro vb w hb hM; (try simp only [nrm]))) | ((with_reducible refine arm_storeW hM (by simp only [evl]; first | done | with_reducible rfl) (by simp only [evl, dV_cells, nV_cells, lV_cells, cV_cells, cells_agg, cells_int, cells_bool, cells_slice, cells_ptr, cells_func, cells_str, cells_byteV, cells_wV, List.toList_toArray]; first | done | with_reducible rfl) (by simp) (by first | exact dcells_one _ | exact stV_one _ | exact shcells_one _ | exact mtcells_one _ | exact tcells_one _ | exact rcells_one _ | exact ncells_one _ | exact lcells_one _ | exact ccells_one _ | exact bytesV_one _ | exact ivc_one _ | (simp [Value.oneCell']; done)) (by (repeat (first | exact Upd.head _ | apply Upd.tail | apply Upd.app)); first | done | fail) (by simp) ?_); clear hM; intro w hM; (try simp only [nrm]))))
  exact ret_cell rfl hM rfl (by (repeat (first | exact mHd | apply mTl | apply mAp)); first | done | fail) (by simp) rfl ⟨rfl, hM.below⟩

set_option maxRecDepth 20000 in
set_option maxHeartbeats 3200000 in
theorem hashed_any (salt : Dig) (A1 : Option Addr) (k c1 : Nat) (ns : List Nat) (hns : ∀ m ∈ ns, m < 4611686018427387904) (w0 : World) (hN : Sl w0 A1 k c1 1 (nsI ns)) (hk : k ≤ 100) :
    Calls Tryd.prog 32 #[dV salt, .slice A1 k c1] w0 (RetO w0 5 1 (32 + (encB ns).length) (bytesV (salt.l ++ encB ns))) := by
  have hM := Mem.refl w0 []
  have hkl : ns.length = k := by have := hN.len; rw [nsI_length] at this; omega
  have hel := encB_len ns
  have hsl := salt.h
  go_enter Tryd.func32, Tryd.ntmps32
  go_wp2_with ((first | (with_reducible refine arm_on0 ?_) | (with_reducible refine arm_on (by with_unfolding_all rfl) ?_)); (first | (((with_reducible refine arm_box (T := 25) (vs := dcells salt) hM (by with_unfolding_all rfl) ?_); clear hM; intro sb w hb hM; (try simp only [nrm]))) | (((with_reducible refine arm_alloc hM ?_); clear hM; intro vb w hb hM; (try simp only [nrm]))) | (((with_reducible refine arm_storeW hM (by simp only [evl]; first | done | with_reducible rfl) (by simp only [evl, dV_cells, nV_cells, lV_cells, cV_cells, cells_agg, cells_int, cells_bool, cells_slice, cells_ptr, cells_func, cells_str, cells_byteV, cells_wV, List.toList_toArray]; first | done | with_reducible rfl) (by simp) (by first | exact dcells_one _ | exact stV_one _ | exact shcells_one _ | exact mtcells_one _ | exact tcells_one _ | exact rcells_one _ | exact ncells_one _ | exact lcells_one _ | exact ccells_one _ | exact bytesV_one _ | exact ivc_one _ | (simp [Value.oneCell']; done)) (by (repeat (first | exact Upd.head _ | apply Upd.tail | apply Upd.app)); first | done | fail) (by simp) ?_); clear hM; intro w hM; (try simp only [nrm])))))
  go_loopw [13] (fun i wr => ∃ (j : Nat) (A' : Option Addr) (c' : Nat) (ho : List Ent), j ≤ k ∧ i = .int .i64 j ∧ Own 145 4 (.slice A' j c') j (ivsV (ns.take j)) ho ∧ Mem w0 [] (ho ++ [(vb, 145, lvc A' j c'), (sb, 25, dcells salt)]) wr) (fun i _ => k - (intOf i).toNat)
  case atStart => exact ⟨0, none, 0, [], by omega, (by first | rfl | trivial | (congr 1; omega) | (congr 2; omega)), .nil, hM⟩
  case round =>
    clear hM
    obtain ⟨j, A', c', ho, hj, rfl, hO, hM⟩ := hrel
    by_cases hjk : j < k
    · obtain ⟨b0, o, rfl, hbl, hr⟩ := hN.blk (by omega) (by omega)
      have hx : w0.cell? ⟨b0, o + j, none⟩ = some (.int .i64 ((ns.getD j 0 : Nat) : Int)) := hr j _ (by simp [nsI, List.getElem?_map, List.getD_eq_getElem?_getD, List.getElem?_eq_getElem (show j < ns.length by omega)])
      have htk : ivsV (ns.take (j + 1)) = ivsV (ns.take j) ++ ivc (ns.getD j 0) := by
        rw [List.take_succ_eq_append_getElem (by omega), ivsV_snoc, List.getD_eq_getElem?_getD, List.getElem?_eq_getElem (show j < ns.length by omega)]; rfl
      generalize ns.getD j 0 = m at hx htk
      go_wp2_with ((first | (with_reducible refine arm_on0 ?_) | (with_reducible refine arm_on (by with_unfolding_all rfl) ?_)); (first | (((with_reducible refine arm_load1R (by simp only [evl]; first | done | with_reducible rfl) (hM.oldc hx) ?_); (try simp only [nrm])))))
      (focus (refine wpB.beginHU 8 [(vb, 145, lvc A' j c')] [7] rfl (by kernel_rfl) hM ?_; clear hM; intro w hM; have hS : ∀ e ∈ [(vb, 145, lvc A' j c')], HasE w e := (by repeat (first | exact List.forall_mem_nil _ | refine List.forall_mem_cons.2 ⟨(by first | exact hM.has _ (by (repeat (first | exact mHd | apply mTl | apply mAp)); first | done | fail) | exact hoE1 hM | exact hoE2 hM), ?_⟩)); refine wpB.tk 0 (hS := hS) (hy := fun w hS => by (go_simp; with_reducible rfl)) (h := ?_); (try simp only [nrm]); refine wpB.tk 1 (hS := hS) (hy := fun w hS => by first | ((with_reducible exact rx_load1A hS (by simp only [evl]; first | done | with_reducible rfl) (by (repeat (first | exact mHd | apply mTl | apply mAp)); first | done | fail) (show (lvc A' j c')[3]? = some (.slice A' j c') from rfl))) | with_reducible exact rx_load1A hS (by simp only [evl]; first | done | with_reducible rfl) (by (repeat (first | exact mHd | apply mTl | apply mAp)); first | done | fail) (by first | (with_unfolding_all rfl) | (simp; done)) | with_reducible exact rx_loadWA hS (by simp only [evl]; first | done | with_reducible rfl) (by (repeat (first | exact mHd | apply mTl | apply mAp)); first | done | fail) (by first | (simp; done) | with_unfolding_all rfl)) (h := ?_); (try simp only [nrm]); refine wpB.tk 2 (hS := hS) (hy := fun w hS => by (go_simp; with_reducible rfl)) (h := ?_); (try simp only [nrm]); refine wpB.only 3 (by simp only [List.getElem?_toArray, List.getElem?_cons_succ, List.getElem?_cons_zero]; with_reducible rfl) (by kernel_rfl) (by with_unfolding_all rfl) ?_; (((with_reducible refine arm_callF hM (by simp only [evl]; first | done | with_reducible rfl) (by with_unfolding_all rfl) (number_any m _) ?_); clear hM; intro w hM; (try simp only [nrm]))); clear hS; have hS : ∀ e ∈ [(vb, 145, lvc A' j c')], HasE w e := (by repeat (first | exact List.forall_mem_nil _ | refine List.forall_mem_cons.2 ⟨(by first | exact hM.has _ (by (repeat (first | exact mHd | apply mTl | apply mAp)); first | done | fail) | exact hoE1 hM | exact hoE2 hM), ?_⟩)); refine ⟨fun _ => hS, ?_⟩; refine wpB.only 4 (by simp only [List.getElem?_toArray, List.getElem?_cons_succ, List.getElem?_cons_zero]; with_reducible rfl) (by kernel_rfl) (by with_unfolding_all rfl) ?_; (((with_reducible refine arm_buildSlice hM (by with_unfolding_all rfl) (by simp only [List.map_cons, List.map_nil]; simp only [evl, dV_cells, nV_cells, lV_cells, cV_cells, cells_agg, cells_int, cells_bool, cells_slice, cells_ptr, cells_func, cells_str, cells_byteV, cells_wV, List.toList_toArray]; simp only [List.flatten_cons, List.flatten_nil, List.append_nil, List.cons_append, List.nil_append]; with_reducible rfl) (by intro p hp; simp only [List.mem_cons, List.not_mem_nil, or_false] at hp; rcases hp with rfl <;> (simp only [evl, dV_cells, nV_cells, lV_cells, cV_cells, cells_agg, cells_int, cells_bool, cells_slice, cells_ptr, cells_func, cells_str, cells_byteV, cells_wV]; simp)) (by decide) ?_); clear hM; intro b w hb hM; (try simp only [nrm])); replace hM := hM.perm (List.perm_middle)); clear hS; have hS : ∀ e ∈ [(vb, 145, lvc A' j c')], HasE w e := (by repeat (first | exact List.forall_mem_nil _ | refine List.forall_mem_cons.2 ⟨(by first | exact hM.has _ (by (repeat (first | exact mHd | apply mTl | apply mAp)); first | done | fail) | exact hoE1 hM | exact hoE2 hM), ?_⟩)); refine ⟨fun _ => hS, ?_⟩; refine wpB.only 5 (by simp only [List.getElem?_toArray, List.getElem?_cons_succ, List.getElem?_cons_zero]; with_reducible rfl) (by kernel_rfl) (by with_unfolding_all rfl) ?_; (((with_reducible refine arm_append_own (ho := ho) (hs := _) hO hM (by simp only [evl]; first | done | with_reducible rfl) (by simp only [evl]; first | done | with_reducible rfl) (hM.sl_ent (List.mem_append_right _ List.mem_cons_self) 0 (n := 1) (c := 1) (size := 4) (xs := ivc m) (by with_unfolding_all rfl) (by with_unfolding_all rfl) (by omega) (by decide)) (ivc_one _) (by omega) (by unfold maxLen; omega) ?_); clear hM; intro v ho w hO hM; (try simp only [nrm])); obtain ⟨A2, c2, rfl⟩ := hO.form; replace hM := hM.sub (List.Sublist.append_left (List.sublist_cons_self _ _) _)); clear hS; have hS : ∀ e ∈ [(vb, 145, lvc A' j c')], HasE w e := (by repeat (first | exact List.forall_mem_nil _ | refine List.forall_mem_cons.2 ⟨(by first | exact hM.has _ (by (repeat (first | exact mHd | apply mTl | apply mAp)); first | done | fail) | exact hoE1 hM | exact hoE2 hM), ?_⟩)); refine ⟨fun _ => hS, ?_⟩; refine wpB.tk 6 (hS := hS) (hy := fun w hS => by (go_simp; with_reducible rfl)) (h := ?_); (try simp only [nrm]); refine wpB.only 7 (by simp only [List.getElem?_toArray, List.getElem?_cons_succ, List.getElem?_cons_zero]; with_reducible rfl) (by kernel_rfl) (by with_unfolding_all rfl) ?_; ((with_reducible refine arm_storeS hM (by simp only [evl]; first | done | with_reducible rfl) (by simp only [evl, dV_cells, nV_cells, lV_cells, cV_cells, cells_agg, cells_int, cells_bool, cells_slice, cells_ptr, cells_func, cells_str, cells_byteV, cells_wV, List.toList_toArray]; first | done | with_reducible rfl) (by first | exact byteV_one _ | exact wV_one _ | with_unfolding_all rfl) (by (repeat (first | exact UpdS.head _ _ _ (by simp) | apply UpdS.tail | apply UpdS.app)); first | done | fail) ?_); clear hM; intro w hM; (try simp only [List.set_cons_zero, List.set_cons_succ] at hM); (try simp only [nrm])); refine ⟨fun h => absurd h (by decide +kernel), ?_⟩; refine wpB.done (by kernel_rfl) ?_ _))
      go_wp2_with ((first | (with_reducible refine arm_on0 ?_) | (with_reducible refine arm_on (by with_unfolding_all rfl) ?_)); (first | fail))
      go_roundw
      case rel => exact ⟨j + 1, A2, c2, ho, by omega, (by first | rfl | trivial | (congr 1; omega) | (congr 2; omega)), by rw [htk]; exact hO, hM⟩
      case measure => simp [intOf]; omega
    · have hjk : j = k := by omega
      subst hjk
      rw [← hkl, List.take_length, hkl] at hO
      obtain ⟨A3, c3, e3, hsl3⟩ := hO.sl hM
      cases e3
      go_wp2_with ((first | (with_reducible refine arm_on0 ?_) | (with_reducible refine arm_on (by with_unfolding_all rfl) ?_)); (first | (((with_reducible refine arm_loadW hM (by simp only [evl]; first | done | with_reducible rfl) (by (repeat (first | exact mHd | apply mTl | apply mAp)); first | done | fail) (by first | (simp; done) | with_unfolding_all rfl) ?_); (try simp only [nrm]))) | (with_reducible refine arm_callGF (by simp only [evl]; first | done | with_reducible rfl) (by with_unfolding_all rfl) (encode_any ns hns A' _ c' _ hsl3 (by omega)) ?_; rintro e w ⟨v2, ho2, rfl, hO2, hM1⟩; replace hM := hM.call hM1; obtain ⟨A2, c2, rfl⟩ := hO2.form; replace hM := hM.sub (List.Sublist.append_left (List.sublist_append_right ho _) _); clear hM1; (try simp only [nrm])) | (((with_reducible refine arm_build0 hM ?_); clear hM; intro b w hb hM; (try simp only [nrm])); have hOe : Own 5 1 (.slice (some ⟨b, 0, none⟩) 0 0) 0 [] [(b, 5, [])] := Own.row b 0 0 [] [] (Nat.le_refl _) (by decide) rfl rfl; replace hM : Mem w0 [] ([(b, 5, [])] ++ (ho2 ++ [(vb, 145, lvc A' j c'), (sb, 25, dcells salt)])) w := hM) | (with_reducible refine arm_append_own (ho := [(b, 5, [])]) hOe hM (by simp only [evl]; first | done | with_reducible rfl) (by simp only [evl]; first | done | with_reducible rfl) (hM.slB_dig (b := sb) (d := salt) (by (repeat (first | exact mHd | apply mTl | apply mAp)); first | done | fail)) (bytesV_one _) (by omega) (by unfold maxLen; omega) ?_; clear hM hOe; intro v1 ho1 w hO1 hM; obtain ⟨Av, cv, rfl⟩ := hO1.form; (try simp only [nrm])) | (with_reducible refine arm_append_own (ho := ho1) hO1 hM (by simp only [evl]; first | done | with_reducible rfl) (by simp only [evl]; first | done | with_reducible rfl) (hO2.slIn hM (fun e he => by (repeat (first | exact List.mem_append_left _ he | apply List.mem_cons_of_mem | apply List.mem_append_right)); first | done | fail)) (bytesV_one _) (by omega) (by unfold maxLen; omega) ?_; clear hM hO1; intro v3 ho3 w hO3 hM; (try simp only [nrm]))))
      go_ret
      refine ⟨_, _, rfl, ?_, hM.sub (List.sublist_append_left _ _)⟩
      have e1 : bytesV (salt.l ++ encB ns) = [] ++ bytesV salt.l ++ bytesV (encB ns) := by simp
      rw [e1, show 32 + (encB ns).length = 0 + 32 + (encB ns).length by omega]
      exact hO3

theorem sidesL_length (n i : Nat) : (sidesL n i).length = (dirs n i).length := by simp [sidesL]
set_option maxRecDepth 20000 in
set_option maxHeartbeats 3200000 in
theorem right_any : ∀ (N n i : Nat) (w0 : World), n ≤ N → n ≤ 1000 → i < n →
    Calls Tryd.prog 75 #[.int .i64 (i : Int), .int .i64 (n : Int)] w0 (RetO w0 4 1 (sidesL n i).length (bsV (sidesL n i))) := by
  intro N
  induction N with
  | zero => intro n i w0 hN _ hi; omega
  | succ N ih =>
    intro n i w0 hN hn hi
    have hM := Mem.refl w0 []
    by_cases h2 : 2 ≤ n
    · have hh := halfN_lt n h2 (by omega)
      have hm := sidesL_more n i h2 (by omega)
      have hle := dirs_len_le n i (by omega)
      rw [← sidesL_length] at hle
      by_cases hlt : i < halfN n
      · rw [if_pos hlt] at hm
        have hle2 := dirs_len_le (halfN n) i (by omega)
        rw [← sidesL_length] at hle2
        go_enter Tryd.func75, Tryd.ntmps75
        go_wp2_with ((first | (with_reducible refine arm_on0 ?_) | (with_reducible refine arm_on (by with_unfolding_all rfl) ?_)); (first | ((with_reducible refine arm_callW (law42Half_any n h2 (by omega) _) (by simp only [evl]; first | done | with_reducible rfl) (by with_unfolding_all rfl) ?_); (try simp only [nrm])) | (((with_reducible refine arm_callO hM (ih (halfN n) i _ (by omega) (by omega) hlt) (by simp only [evl]; first | done | with_reducible rfl) (by with_unfolding_all rfl) ?_); clear hM; intro v ho w hO hM; (try simp only [nrm]))) | (((with_reducible refine arm_buildSlice hM (by with_unfolding_all rfl) (by simp only [List.map_cons, List.map_nil]; simp only [evl, dV_cells, nV_cells, lV_cells, cV_cells, cells_agg, cells_int, cells_bool, cells_slice, cells_ptr, cells_func, cells_str, cells_byteV, cells_wV, List.toList_toArray]; simp only [List.flatten_cons, List.flatten_nil, List.append_nil, List.cons_append, List.nil_append]; with_reducible rfl) (by intro p hp; simp only [List.mem_cons, List.not_mem_nil, or_false] at hp; rcases hp with rfl <;> (simp only [evl, dV_cells, nV_cells, lV_cells, cV_cells, cells_agg, cells_int, cells_bool, cells_slice, cells_ptr, cells_func, cells_str, cells_byteV, cells_wV]; simp)) (by decide) ?_); clear hM; intro b w hb hM; (try simp only [nrm])); replace hM := hM.perm List.perm_middle) | (((with_reducible refine arm_append_own (ho := ho) (hs := _) hO hM (by simp only [evl]; first | done | with_reducible rfl) (by simp only [evl]; first | done | with_reducible rfl) (hM.sl_ent (List.mem_append_right _ List.mem_cons_self) 0 (n := 1) (c := 1) (size := 1) (xs := [.bool false]) (by with_unfolding_all rfl) (by with_unfolding_all rfl) (by omega) (by decide)) ((by intro u hu; rw [List.mem_singleton] at hu; subst hu; with_unfolding_all rfl)) (by omega) (by unfold maxLen; omega) ?_); clear hM; intro v ho w hO hM; (try simp only [nrm])))))
        go_ret
        refine ⟨_, _, rfl, ?_, hM.sub (List.sublist_append_left _ _)⟩
        rw [hm, bsV_snoc, List.length_append]
        exact hO
      · rw [if_neg hlt] at hm
        have hle2 := dirs_len_le (n - halfN n) (i - halfN n) (by omega)
        rw [← sidesL_length] at hle2
        have e1 : IntKind.i64.wrap ((i : Int) - (halfN n : Nat)) = ((i - halfN n : Nat) : Int) := by rw [IntKind.wrap_i64]; omega
        have e2 : IntKind.i64.wrap ((n : Int) - (halfN n : Nat)) = ((n - halfN n : Nat) : Int) := by rw [IntKind.wrap_i64]; omega
        go_enter Tryd.func75, Tryd.ntmps75
        go_wp2_with ((first | (with_reducible refine arm_on0 ?_) | (with_reducible refine arm_on (by with_unfolding_all rfl) ?_)); (first | ((with_reducible refine arm_callW (law42Half_any n h2 (by omega) _) (by simp only [evl]; first | done | with_reducible rfl) (by with_unfolding_all rfl) ?_); (try simp only [nrm])) | (((with_reducible refine arm_callO hM (ih (n - halfN n) (i - halfN n) _ (by omega) (by omega) (by omega)) (by simp only [evl]; first | done | with_reducible rfl) (by with_unfolding_all rfl) ?_); clear hM; intro v ho w hO hM; (try simp only [nrm]))) | (((with_reducible refine arm_buildSlice hM (by with_unfolding_all rfl) (by simp only [List.map_cons, List.map_nil]; simp only [evl, dV_cells, nV_cells, lV_cells, cV_cells, cells_agg, cells_int, cells_bool, cells_slice, cells_ptr, cells_func, cells_str, cells_byteV, cells_wV, List.toList_toArray]; simp only [List.flatten_cons, List.flatten_nil, List.append_nil, List.cons_append, List.nil_append]; with_reducible rfl) (by intro p hp; simp only [List.mem_cons, List.not_mem_nil, or_false] at hp; rcases hp with rfl <;> (simp only [evl, dV_cells, nV_cells, lV_cells, cV_cells, cells_agg, cells_int, cells_bool, cells_slice, cells_ptr, cells_func, cells_str, cells_byteV, cells_wV]; simp)) (by decide) ?_); clear hM; intro b w hb hM; (try simp only [nrm])); replace hM := hM.perm List.perm_middle) | (((with_reducible refine arm_append_own (ho := ho) (hs := _) hO hM (by simp only [evl]; first | done | with_reducible rfl) (by simp only [evl]; first | done | with_reducible rfl) (hM.sl_ent (List.mem_append_right _ List.mem_cons_self) 0 (n := 1) (c := 1) (size := 1) (xs := [.bool true]) (by with_unfolding_all rfl) (by with_unfolding_all rfl) (by omega) (by decide)) ((by intro u hu; rw [List.mem_singleton] at hu; subst hu; with_unfolding_all rfl)) (by omega) (by unfold maxLen; omega) ?_); clear hM; intro v ho w hO hM; (try simp only [nrm])))))
        go_ret
        refine ⟨_, _, rfl, ?_, hM.sub (List.sublist_append_left _ _)⟩
        rw [hm, bsV_snoc, List.length_append]
        exact hO
    · have hs := sidesL_one n i (by omega)
      rw [hs]
      go_enter Tryd.func75, Tryd.ntmps75
      go_wp2_with ((first | (with_reducible refine arm_on0 ?_) | (with_reducible refine arm_on (by with_unfolding_all rfl) ?_)); (first | ((with_reducible refine arm_cmpB (by with_unfolding_all simp) (by simp only [evl]; first | done | with_reducible rfl) (by simp only [evl]; first | done | with_reducible rfl) (by with_unfolding_all first | exact decide_eq_false (by omega) | exact decide_eq_true (by omega) | exact beq_false_of_ne (by omega)) ?_); (try simp only [nrm]))))
      go_ret
      exact ⟨_, [], rfl, .nil, hM⟩
end Go.Proofs.YtelnilllleempaaDoor
