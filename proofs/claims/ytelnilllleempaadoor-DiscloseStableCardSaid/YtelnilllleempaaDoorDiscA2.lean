/- The leaves of lines and claims. -/
import Derived.Test.YtelnilllleempaaDoorDiscA
import Derived.Test.YtelnilllleempaaDoorJoin
namespace Go.Proofs.YtelnilllleempaaDoor
set_option linter.all false
open Go Go.RowKit

theorem leaf_ok (x : Line) (h : okLine x) (salt : Dig) (w0 : World) (hG : Glo w0) :
    Calls Tryd.prog 37 #[lV x, dV salt] w0 (RetP w0 (.tuple #[nV (leafN x salt), .int .i64 0])) := by
  obtain ⟨c, t, g, k, p⟩ := x
  obtain ⟨h1, h2, h3, h4, h5, h6, h7, h8, h9, h10⟩ := h
  obtain ⟨c, rfl⟩ := Int.eq_ofNat_of_zero_le h1
  obtain ⟨t, rfl⟩ := Int.eq_ofNat_of_zero_le h3
  obtain ⟨g, rfl⟩ := Int.eq_ofNat_of_zero_le h5
  obtain ⟨k, rfl⟩ := Int.eq_ofNat_of_zero_le h7
  obtain ⟨p, rfl⟩ := Int.eq_ofNat_of_zero_le h9
  simp only at h2 h4 h6 h8 h10
  have := leafOk_any c t g k p (by omega) (by omega) (by omega) (by omega) (by omega) salt w0 hG
  simpa [leafN, lineNs] using this

def lineD (x : Line) (salt : Dig) : Dig := hashD [108, 105, 110, 101] salt.l (lineNs x)
theorem leafN_d (x : Line) (salt : Dig) : (leafN x salt).d = lineD x salt := rfl

set_option maxRecDepth 20000 in
set_option maxHeartbeats 800000 in
theorem leafL_any (x : Line) (h : okLine x) (salt : Dig) (w0 : World) (hG : Glo w0) :
    Calls Tryd.prog 98 #[lV x, dV salt] w0 (RetP w0 (dV (lineD x salt))) := by
  have hM := Mem.refl w0 []
  rw [← leafN_d]
  go_enter Tryd.func98, Tryd.ntmps98
  go_wp2_with ((first | (with_reducible refine arm_on0 ?_) | (with_reducible refine arm_on (by with_unfolding_all rfl) ?_)); (first | (with_reducible refine arm_box (T := 63) (vs := lcells x) hM (by with_unfolding_all rfl) ?_; clear hM; intro xb w hxb hM; (try simp only [nrm])) | (((with_reducible refine arm_box hM (by simp only [evl, dV_cells, nV_cells, lV_cells, cV_cells, cells_agg, cells_int, cells_bool, cells_slice, cells_ptr, cells_func, cells_str, cells_byteV, cells_wV, List.toList_toArray]; first | done | with_reducible rfl) ?_); clear hM; intro sb w hb hM; (try simp only [nrm]))) | ((with_reducible refine arm_alloc hM ?_); clear hM; intro db w hb hM; (try simp only [nrm])) | (with_reducible refine arm_loadN (T := 25) (cs := ncells (leafN x salt)) (xs := dcells (leafN x salt).d) hM (by simp only [evl]; first | done | with_reducible rfl) (by (repeat (first | exact mHd | apply mTl | apply mAp)); first | done | fail) (by rw [List.drop_zero]; exact ncells_take _) (by simp) ?_; (try simp only [nrm])) | ((with_reducible refine arm_loadW hM (by simp only [evl]; first | done | with_reducible rfl) (by (repeat (first | exact mHd | apply mTl | apply mAp)); first | done | fail) (by first | (simp; done) | with_unfolding_all rfl) ?_); (try simp only [nrm])) | (((with_reducible refine arm_call hM (leaf_ok x h salt _ (hM.glo hG)) (by simp only [evl]; first | done | with_reducible rfl) (by with_unfolding_all rfl) ?_); clear hM; intro w hM; (try simp only [nrm]))) | ((with_reducible refine arm_storeW hM (by simp only [evl]; first | done | with_reducible rfl) (by simp only [evl, dV_cells, nV_cells, lV_cells, cV_cells, cells_agg, cells_int, cells_bool, cells_slice, cells_ptr, cells_func, cells_str, cells_byteV, cells_wV, List.toList_toArray]; first | done | with_reducible rfl) (by simp) (by first | exact dcells_one _ | exact stV_one _ | exact shcells_one _ | exact mtcells_one _ | exact tcells_one _ | exact rcells_one _ | exact ncells_one _ | exact lcells_one _ | exact ccells_one _ | exact bytesV_one _ | exact ivc_one _ | (simp [Value.oneCell']; done)) (by (repeat (first | exact Upd.head _ | apply Upd.tail | apply Upd.app)); first | done | fail) (by simp) ?_); clear hM; intro w hM; (try simp only [nrm]))))
  exact ret_cell rfl hM rfl (by (repeat (first | exact mHd | apply mTl | apply mAp)); first | done | fail) (by simp) rfl ⟨rfl, hM.below⟩

def claimNs (x : Claim) : List Nat := [x.prog.toNat, x.req.toNat, if x.met then 1 else 0]
def claimD (x : Claim) (salt : Dig) : Dig := hashD [99, 108, 97, 105, 109] salt.l (claimNs x)
theorem claimNs_lt (x : Claim) (h : okClaim x) : ∀ m ∈ claimNs x, m < 4611686018427387904 := by
  obtain ⟨h1, h2, h3, h4⟩ := h
  intro m hm
  simp only [claimNs, List.mem_cons, List.not_mem_nil, or_false] at hm
  rcases hm with rfl | rfl | rfl
  · omega
  · omega
  · split <;> omega
theorem lineNs_lt (x : Line) (h : okLine x) : ∀ m ∈ lineNs x, m < 4611686018427387904 := by
  obtain ⟨h1, h2, h3, h4, h5, h6, h7, h8, h9, h10⟩ := h
  intro m hm
  simp only [lineNs, List.mem_cons, List.not_mem_nil, or_false] at hm
  rcases hm with rfl | rfl | rfl | rfl | rfl <;> omega
theorem encB_pos (ns : List Nat) : 0 < (encB ns).length := by simp [encB]

set_option maxRecDepth 20000 in
set_option maxHeartbeats 3200000 in
theorem leafC_any0 (c t m : Nat) (g : Bool) (hm : m = if g then 1 else 0) (hc : c < 256) (ht : t < 64) (salt : Dig) (w0 : World) (hG : Glo w0) :
    Calls Tryd.prog 103 #[cV ⟨c, t, g⟩, dV salt] w0 (RetP w0 (dV (hashD [99, 108, 97, 105, 109] salt.l [c, t, m]))) := by
  have hM := Mem.refl w0 []
  have hns : ∀ u ∈ [c, t, m], u < 4611686018427387904 := by
    intro u hu; simp at hu; rcases hu with rfl | rfl | rfl
    · omega
    · omega
    · rw [hm]; split <;> omega
  have hel := encB_len [c, t, m]
  have hep := encB_pos [c, t, m]
  simp only [List.length_cons, List.length_nil] at hel
  generalize hnsd : [c, t, m] = ns at hns hel hep
  have hk0 : (nsI ns)[0]? = some (.int .i64 (c : Int)) := by subst hnsd; rfl
  have hk1 : (nsI ns)[1]? = some (.int .i64 (t : Int)) := by subst hnsd; rfl
  have hk2 : (nsI ns)[2]? = some (.int .i64 (m : Int)) := by subst hnsd; rfl
  have hkl : ns.length = 3 := by subst hnsd; rfl
  have hkd : nsI ns = [.int .i64 (c : Int), .int .i64 (t : Int), .int .i64 (m : Int)] := by subst hnsd; rfl
  cases g
  · simp only [Bool.false_eq_true, if_false] at hm
    subst hm
    go_enter Tryd.func103, Tryd.ntmps103
    go_wp2_with ((first | (with_reducible refine arm_on0 ?_) | (with_reducible refine arm_on (by with_unfolding_all rfl) ?_)); (first | (with_reducible refine arm_box (T := 71) hM (by simp only [evl, dV_cells, nV_cells, lV_cells, cV_cells, cells_agg, cells_int, cells_bool, cells_slice, cells_ptr, cells_func, cells_str, cells_byteV, cells_wV, List.toList_toArray]; first | done | with_reducible rfl) ?_; clear hM; intro xb w hxb hM; (try simp only [nrm])) | (with_reducible refine arm_box (T := 25) hM (by simp only [evl, dV_cells, nV_cells, lV_cells, cV_cells, cells_agg, cells_int, cells_bool, cells_slice, cells_ptr, cells_func, cells_str, cells_byteV, cells_wV, List.toList_toArray]; first | done | with_reducible rfl) ?_; clear hM; intro sb w hsb hM; (try simp only [nrm])) | (with_reducible refine arm_alloc (T := 25) hM ?_; clear hM; intro d w hd hM; (try simp only [nrm])) | (with_reducible refine arm_alloc (T := 145) hM ?_; clear hM; intro vb w hvb hM; (try simp only [nrm])) | (((with_reducible refine arm_storeW hM (by simp only [evl]; first | done | with_reducible rfl) (by simp only [evl, dV_cells, nV_cells, lV_cells, cV_cells, cells_agg, cells_int, cells_bool, cells_slice, cells_ptr, cells_func, cells_str, cells_byteV, cells_wV, List.toList_toArray]; first | done | with_reducible rfl) (by simp) (by first | exact dcells_one _ | exact stV_one _ | exact shcells_one _ | exact mtcells_one _ | exact tcells_one _ | exact rcells_one _ | exact ncells_one _ | exact lcells_one _ | exact ccells_one _ | exact bytesV_one _ | exact ivc_one _ | (simp [Value.oneCell']; done)) (by (repeat (first | exact Upd.head _ | apply Upd.tail | apply Upd.app)); first | done | fail) (by simp) ?_); clear hM; intro w hM; (try simp only [nrm]))) | ((with_reducible refine arm_load1 hM (by simp only [evl]; first | done | with_reducible rfl) (by (repeat (first | exact mHd | apply mTl | apply mAp)); first | done | fail) (by first | (with_unfolding_all rfl) | (simp; done)) ?_); (try simp only [nrm])) | (with_reducible refine arm_buildSlice hM (by with_unfolding_all rfl) (by simp only [List.map_cons, List.map_nil]; simp only [evl, dV_cells, nV_cells, lV_cells, cV_cells, cells_agg, cells_int, cells_bool, cells_slice, cells_ptr, cells_func, cells_str, cells_byteV, cells_wV, List.toList_toArray]; simp only [List.flatten_cons, List.flatten_nil, List.append_nil, List.cons_append, List.nil_append]; with_reducible rfl) (by intro p hp; simp only [List.mem_cons, List.not_mem_nil, or_false] at hp; rcases hp with rfl | rfl | rfl <;> (simp only [evl, dV_cells, nV_cells, lV_cells, cV_cells, cells_agg, cells_int, cells_bool, cells_slice, cells_ptr, cells_func, cells_str, cells_byteV, cells_wV]; simp)) (by decide) ?_; clear hM; intro ib w hib hM; (try simp only [nrm]))))
    have hM1 : Mem w0 [] [(ib, 3, nsI ns), (vb, 145, lvc none 0 0), (d, 25, dcells zeroDig), (sb, 25, dcells salt)] w := by
      rw [hkd]
      exact hM.sub (by repeat (first | exact List.Sublist.refl _ | exact List.nil_sublist _ | apply List.Sublist.cons_cons | apply List.Sublist.cons))
    clear hM
    go_loopw [21] (fun i wr => ∃ (j : Nat) (A' : Option Addr) (c' : Nat) (ho : List Ent), j ≤ 3 ∧ i = .int .i64 j ∧ Own 145 4 (.slice A' j c') j (ivsV (ns.take j)) ho ∧ Mem w0 [] (ho ++ [(vb, 145, lvc A' j c'), (ib, 3, nsI ns), (d, 25, dcells zeroDig), (sb, 25, dcells salt)]) wr) (fun i _ => 3 - (intOf i).toNat)
    case atStart => exact ⟨0, none, 0, [], by omega, (by first | rfl | trivial | (congr 1; omega) | (congr 2; omega)), .nil, hM1.perm (List.Perm.swap _ _ _)⟩
    case round =>
      clear hM1
      obtain ⟨j, A', c', ho, hj, rfl, hO, hM⟩ := hrel
      by_cases hjk : j < 3
      · have hx : (nsI ns)[j]? = some (.int .i64 ((ns.getD j 0 : Nat) : Int)) := by simp [nsI, List.getElem?_map, List.getD_eq_getElem?_getD, List.getElem?_eq_getElem (show j < ns.length by omega)]
        have htk : ivsV (ns.take (j + 1)) = ivsV (ns.take j) ++ ivc (ns.getD j 0) := by
          rw [List.take_succ_eq_append_getElem (by omega), ivsV_snoc, List.getD_eq_getElem?_getD, List.getElem?_eq_getElem (show j < ns.length by omega)]; rfl
        generalize ns.getD j 0 = m at hx htk
        go_wp2_with ((first | (with_reducible refine arm_on0 ?_) | (with_reducible refine arm_on (by with_unfolding_all rfl) ?_)); (first | (with_reducible refine arm_load1 (B := 3) hM (by simp only [evl]; first | done | with_reducible rfl) (by (repeat (first | exact mHd | apply mTl | apply mAp)); first | done | fail) (by first | exact hx | (rw [Nat.zero_add]; exact hx)) ?_; (try simp only [nrm])) | (((with_reducible refine arm_load1 hM (by simp only [evl]; first | done | with_reducible rfl) (by (repeat (first | exact mHd | apply mTl | apply mAp)); first | done | fail) (by exact (show (lvc A' j c')[3]? = some (.slice A' j c') from rfl)) ?_); (try simp only [nrm]))) | (((with_reducible refine arm_buildSlice hM (by with_unfolding_all rfl) (by simp only [List.map_cons, List.map_nil]; simp only [evl, dV_cells, nV_cells, lV_cells, cV_cells, cells_agg, cells_int, cells_bool, cells_slice, cells_ptr, cells_func, cells_str, cells_byteV, cells_wV, List.toList_toArray]; simp only [List.flatten_cons, List.flatten_nil, List.append_nil, List.cons_append, List.nil_append]; with_reducible rfl) (by intro p hp; simp only [List.mem_cons, List.not_mem_nil, or_false] at hp; rcases hp with rfl <;> (simp only [evl, dV_cells, nV_cells, lV_cells, cV_cells, cells_agg, cells_int, cells_bool, cells_slice, cells_ptr, cells_func, cells_str, cells_byteV, cells_wV]; simp)) (by decide) ?_); clear hM; intro b w hb hM; (try simp only [nrm])); replace hM := hM.perm (List.perm_middle)) | (((with_reducible refine arm_append_own (ho := ho) (hs := _) hO hM (by simp only [evl]; first | done | with_reducible rfl) (by simp only [evl]; first | done | with_reducible rfl) (hM.sl_ent (List.mem_append_right _ List.mem_cons_self) 0 (n := 1) (c := 1) (size := 4) (xs := ivc m) (by with_unfolding_all rfl) (by with_unfolding_all rfl) (by omega) (by decide)) (ivc_one _) (by omega) (by unfold maxLen; omega) ?_); clear hM; intro v ho w hO hM; (try simp only [nrm])); obtain ⟨A2, c2, rfl⟩ := hO.form; replace hM := hM.sub (List.Sublist.append_left (List.sublist_cons_self _ _) _)) | ((with_reducible refine arm_storeS hM (by simp only [evl]; first | done | with_reducible rfl) (by simp only [evl, dV_cells, nV_cells, lV_cells, cV_cells, cells_agg, cells_int, cells_bool, cells_slice, cells_ptr, cells_func, cells_str, cells_byteV, cells_wV, List.toList_toArray]; first | done | with_reducible rfl) (by first | exact byteV_one _ | exact wV_one _ | with_unfolding_all rfl) (by (repeat (first | exact UpdS.head _ _ _ (by simp) | apply UpdS.tail | apply UpdS.app)); first | done | fail) ?_); clear hM; intro w hM; (try simp only [List.set_cons_zero, List.set_cons_succ] at hM); (try simp only [nrm]))))
        go_roundw
        case rel => exact ⟨j + 1, A2, c2, ho, by omega, (by first | rfl | trivial | (congr 1; omega) | (congr 2; omega)), by rw [htk]; exact hO, hM⟩
        case measure => simp [intOf]; omega
      · have hjk : j = 3 := by omega
        subst hjk
        rw [← hkl, List.take_length, hkl] at hO
        obtain ⟨A3, c3, e3, hsl⟩ := hO.sl hM
        cases e3
        go_wp2_with ((first | (with_reducible refine arm_on0 ?_) | (with_reducible refine arm_on (by with_unfolding_all rfl) ?_)); (first | (((with_reducible refine arm_loadW hM (by simp only [evl]; first | done | with_reducible rfl) (by (repeat (first | exact mHd | apply mTl | apply mAp)); first | done | fail) (by first | (simp; done) | with_unfolding_all rfl) ?_); (try simp only [nrm]))) | (with_reducible refine arm_callG (by simp only [evl]; first | done | with_reducible rfl) (by with_unfolding_all rfl) (encode_any ns hns A' _ c' _ hsl (by omega)) ?_; rintro e w ⟨v2, ho2, rfl, hO2, hM1⟩; replace hM := hM.call hM1; obtain ⟨A2, c2, rfl, hs2⟩ := hO2.sl (hs := []) (by simpa using hM1); replace hM := hM.sub (List.Sublist.append_left (List.sublist_append_right ho _) _); clear hM1; (try simp only [nrm])) | (((with_reducible refine arm_append_grow hM (by simp only [evl]; first | done | with_reducible rfl) (by simp only [evl]; first | done | with_reducible rfl) (hM.slB_dig (b := sb) (d := salt) (by (repeat (first | exact mHd | apply mTl | apply mAp)); first | done | fail)) (hO2.slOf hM) (bytesV_one _) (by omega) (by omega) (by unfold maxLen; omega) ?_); clear hM; intro gb cap tl w hgb hcap hcapm htl hM; (try simp only [nrm]))) | (((with_reducible refine arm_call hM (tagged_any ⟨#[99, 108, 97, 105, 109]⟩ (some ⟨gb, 0, none⟩) (32 + (encB ns).length) cap (salt.l ++ encB ns) _ (hM.glo hG) (by decide) (hM.sl_ent (b := gb) (by (repeat (first | exact mHd | apply mTl | apply mAp)); first | done | fail) 0 (by rw [List.drop_zero, bytesV_append]; exact List.take_left' (by simp [salt.h])) (by simp [salt.h]) (by omega) hcapm) (by omega)) (by simp only [evl]; first | done | with_reducible rfl) (by with_unfolding_all rfl) ?_); clear hM; intro w hM; (try simp only [nrm]))) | ((with_reducible refine arm_storeW hM (by simp only [evl]; first | done | with_reducible rfl) (by simp only [evl, dV_cells, nV_cells, lV_cells, cV_cells, cells_agg, cells_int, cells_bool, cells_slice, cells_ptr, cells_func, cells_str, cells_byteV, cells_wV, List.toList_toArray]; first | done | with_reducible rfl) (by simp) (by first | exact dcells_one _ | exact stV_one _ | exact shcells_one _ | exact mtcells_one _ | exact tcells_one _ | exact rcells_one _ | exact ncells_one _ | exact lcells_one _ | exact ccells_one _ | exact bytesV_one _ | exact ivc_one _ | (simp [Value.oneCell']; done)) (by (repeat (first | exact Upd.head _ | apply Upd.tail | apply Upd.app)); first | done | fail) (by simp) ?_); clear hM; intro w hM; (try simp only [nrm]))))
        exact ret_cell rfl hM rfl (by (repeat (first | exact mHd | apply mTl | apply mAp)); first | done | fail) (by simp) rfl ⟨rfl, hM.below⟩
  · simp only [if_true] at hm
    subst hm
    go_enter Tryd.func103, Tryd.ntmps103
    go_wp2_with ((first | (with_reducible refine arm_on0 ?_) | (with_reducible refine arm_on (by with_unfolding_all rfl) ?_)); (first | (with_reducible refine arm_box (T := 71) hM (by simp only [evl, dV_cells, nV_cells, lV_cells, cV_cells, cells_agg, cells_int, cells_bool, cells_slice, cells_ptr, cells_func, cells_str, cells_byteV, cells_wV, List.toList_toArray]; first | done | with_reducible rfl) ?_; clear hM; intro xb w hxb hM; (try simp only [nrm])) | (with_reducible refine arm_box (T := 25) hM (by simp only [evl, dV_cells, nV_cells, lV_cells, cV_cells, cells_agg, cells_int, cells_bool, cells_slice, cells_ptr, cells_func, cells_str, cells_byteV, cells_wV, List.toList_toArray]; first | done | with_reducible rfl) ?_; clear hM; intro sb w hsb hM; (try simp only [nrm])) | (with_reducible refine arm_alloc (T := 25) hM ?_; clear hM; intro d w hd hM; (try simp only [nrm])) | (with_reducible refine arm_alloc (T := 145) hM ?_; clear hM; intro vb w hvb hM; (try simp only [nrm])) | (((with_reducible refine arm_storeW hM (by simp only [evl]; first | done | with_reducible rfl) (by simp only [evl, dV_cells, nV_cells, lV_cells, cV_cells, cells_agg, cells_int, cells_bool, cells_slice, cells_ptr, cells_func, cells_str, cells_byteV, cells_wV, List.toList_toArray]; first | done | with_reducible rfl) (by simp) (by first | exact dcells_one _ | exact stV_one _ | exact shcells_one _ | exact mtcells_one _ | exact tcells_one _ | exact rcells_one _ | exact ncells_one _ | exact lcells_one _ | exact ccells_one _ | exact bytesV_one _ | exact ivc_one _ | (simp [Value.oneCell']; done)) (by (repeat (first | exact Upd.head _ | apply Upd.tail | apply Upd.app)); first | done | fail) (by simp) ?_); clear hM; intro w hM; (try simp only [nrm]))) | ((with_reducible refine arm_load1 hM (by simp only [evl]; first | done | with_reducible rfl) (by (repeat (first | exact mHd | apply mTl | apply mAp)); first | done | fail) (by first | (with_unfolding_all rfl) | (simp; done)) ?_); (try simp only [nrm])) | (with_reducible refine arm_buildSlice hM (by with_unfolding_all rfl) (by simp only [List.map_cons, List.map_nil]; simp only [evl, dV_cells, nV_cells, lV_cells, cV_cells, cells_agg, cells_int, cells_bool, cells_slice, cells_ptr, cells_func, cells_str, cells_byteV, cells_wV, List.toList_toArray]; simp only [List.flatten_cons, List.flatten_nil, List.append_nil, List.cons_append, List.nil_append]; with_reducible rfl) (by intro p hp; simp only [List.mem_cons, List.not_mem_nil, or_false] at hp; rcases hp with rfl | rfl | rfl <;> (simp only [evl, dV_cells, nV_cells, lV_cells, cV_cells, cells_agg, cells_int, cells_bool, cells_slice, cells_ptr, cells_func, cells_str, cells_byteV, cells_wV]; simp)) (by decide) ?_; clear hM; intro ib w hib hM; (try simp only [nrm]))))
    have hM1 : Mem w0 [] [(ib, 3, nsI ns), (vb, 145, lvc none 0 0), (d, 25, dcells zeroDig), (sb, 25, dcells salt)] w := by
      rw [hkd]
      exact hM.sub (by repeat (first | exact List.Sublist.refl _ | exact List.nil_sublist _ | apply List.Sublist.cons_cons | apply List.Sublist.cons))
    clear hM
    go_loopw [21] (fun i wr => ∃ (j : Nat) (A' : Option Addr) (c' : Nat) (ho : List Ent), j ≤ 3 ∧ i = .int .i64 j ∧ Own 145 4 (.slice A' j c') j (ivsV (ns.take j)) ho ∧ Mem w0 [] (ho ++ [(vb, 145, lvc A' j c'), (ib, 3, nsI ns), (d, 25, dcells zeroDig), (sb, 25, dcells salt)]) wr) (fun i _ => 3 - (intOf i).toNat)
    case atStart => exact ⟨0, none, 0, [], by omega, (by first | rfl | trivial | (congr 1; omega) | (congr 2; omega)), .nil, hM1.perm (List.Perm.swap _ _ _)⟩
    case round =>
      clear hM1
      obtain ⟨j, A', c', ho, hj, rfl, hO, hM⟩ := hrel
      by_cases hjk : j < 3
      · have hx : (nsI ns)[j]? = some (.int .i64 ((ns.getD j 0 : Nat) : Int)) := by simp [nsI, List.getElem?_map, List.getD_eq_getElem?_getD, List.getElem?_eq_getElem (show j < ns.length by omega)]
        have htk : ivsV (ns.take (j + 1)) = ivsV (ns.take j) ++ ivc (ns.getD j 0) := by
          rw [List.take_succ_eq_append_getElem (by omega), ivsV_snoc, List.getD_eq_getElem?_getD, List.getElem?_eq_getElem (show j < ns.length by omega)]; rfl
        generalize ns.getD j 0 = m at hx htk
        go_wp2_with ((first | (with_reducible refine arm_on0 ?_) | (with_reducible refine arm_on (by with_unfolding_all rfl) ?_)); (first | (with_reducible refine arm_load1 (B := 3) hM (by simp only [evl]; first | done | with_reducible rfl) (by (repeat (first | exact mHd | apply mTl | apply mAp)); first | done | fail) (by first | exact hx | (rw [Nat.zero_add]; exact hx)) ?_; (try simp only [nrm])) | (((with_reducible refine arm_load1 hM (by simp only [evl]; first | done | with_reducible rfl) (by (repeat (first | exact mHd | apply mTl | apply mAp)); first | done | fail) (by exact (show (lvc A' j c')[3]? = some (.slice A' j c') from rfl)) ?_); (try simp only [nrm]))) | (((with_reducible refine arm_buildSlice hM (by with_unfolding_all rfl) (by simp only [List.map_cons, List.map_nil]; simp only [evl, dV_cells, nV_cells, lV_cells, cV_cells, cells_agg, cells_int, cells_bool, cells_slice, cells_ptr, cells_func, cells_str, cells_byteV, cells_wV, List.toList_toArray]; simp only [List.flatten_cons, List.flatten_nil, List.append_nil, List.cons_append, List.nil_append]; with_reducible rfl) (by intro p hp; simp only [List.mem_cons, List.not_mem_nil, or_false] at hp; rcases hp with rfl <;> (simp only [evl, dV_cells, nV_cells, lV_cells, cV_cells, cells_agg, cells_int, cells_bool, cells_slice, cells_ptr, cells_func, cells_str, cells_byteV, cells_wV]; simp)) (by decide) ?_); clear hM; intro b w hb hM; (try simp only [nrm])); replace hM := hM.perm (List.perm_middle)) | (((with_reducible refine arm_append_own (ho := ho) (hs := _) hO hM (by simp only [evl]; first | done | with_reducible rfl) (by simp only [evl]; first | done | with_reducible rfl) (hM.sl_ent (List.mem_append_right _ List.mem_cons_self) 0 (n := 1) (c := 1) (size := 4) (xs := ivc m) (by with_unfolding_all rfl) (by with_unfolding_all rfl) (by omega) (by decide)) (ivc_one _) (by omega) (by unfold maxLen; omega) ?_); clear hM; intro v ho w hO hM; (try simp only [nrm])); obtain ⟨A2, c2, rfl⟩ := hO.form; replace hM := hM.sub (List.Sublist.append_left (List.sublist_cons_self _ _) _)) | ((with_reducible refine arm_storeS hM (by simp only [evl]; first | done | with_reducible rfl) (by simp only [evl, dV_cells, nV_cells, lV_cells, cV_cells, cells_agg, cells_int, cells_bool, cells_slice, cells_ptr, cells_func, cells_str, cells_byteV, cells_wV, List.toList_toArray]; first | done | with_reducible rfl) (by first | exact byteV_one _ | exact wV_one _ | with_unfolding_all rfl) (by (repeat (first | exact UpdS.head _ _ _ (by simp) | apply UpdS.tail | apply UpdS.app)); first | done | fail) ?_); clear hM; intro w hM; (try simp only [List.set_cons_zero, List.set_cons_succ] at hM); (try simp only [nrm]))))
        go_roundw
        case rel => exact ⟨j + 1, A2, c2, ho, by omega, (by first | rfl | trivial | (congr 1; omega) | (congr 2; omega)), by rw [htk]; exact hO, hM⟩
        case measure => simp [intOf]; omega
      · have hjk : j = 3 := by omega
        subst hjk
        rw [← hkl, List.take_length, hkl] at hO
        obtain ⟨A3, c3, e3, hsl⟩ := hO.sl hM
        cases e3
        go_wp2_with ((first | (with_reducible refine arm_on0 ?_) | (with_reducible refine arm_on (by with_unfolding_all rfl) ?_)); (first | (((with_reducible refine arm_loadW hM (by simp only [evl]; first | done | with_reducible rfl) (by (repeat (first | exact mHd | apply mTl | apply mAp)); first | done | fail) (by first | (simp; done) | with_unfolding_all rfl) ?_); (try simp only [nrm]))) | (with_reducible refine arm_callG (by simp only [evl]; first | done | with_reducible rfl) (by with_unfolding_all rfl) (encode_any ns hns A' _ c' _ hsl (by omega)) ?_; rintro e w ⟨v2, ho2, rfl, hO2, hM1⟩; replace hM := hM.call hM1; obtain ⟨A2, c2, rfl, hs2⟩ := hO2.sl (hs := []) (by simpa using hM1); replace hM := hM.sub (List.Sublist.append_left (List.sublist_append_right ho _) _); clear hM1; (try simp only [nrm])) | (((with_reducible refine arm_append_grow hM (by simp only [evl]; first | done | with_reducible rfl) (by simp only [evl]; first | done | with_reducible rfl) (hM.slB_dig (b := sb) (d := salt) (by (repeat (first | exact mHd | apply mTl | apply mAp)); first | done | fail)) (hO2.slOf hM) (bytesV_one _) (by omega) (by omega) (by unfold maxLen; omega) ?_); clear hM; intro gb cap tl w hgb hcap hcapm htl hM; (try simp only [nrm]))) | (((with_reducible refine arm_call hM (tagged_any ⟨#[99, 108, 97, 105, 109]⟩ (some ⟨gb, 0, none⟩) (32 + (encB ns).length) cap (salt.l ++ encB ns) _ (hM.glo hG) (by decide) (hM.sl_ent (b := gb) (by (repeat (first | exact mHd | apply mTl | apply mAp)); first | done | fail) 0 (by rw [List.drop_zero, bytesV_append]; exact List.take_left' (by simp [salt.h])) (by simp [salt.h]) (by omega) hcapm) (by omega)) (by simp only [evl]; first | done | with_reducible rfl) (by with_unfolding_all rfl) ?_); clear hM; intro w hM; (try simp only [nrm]))) | ((with_reducible refine arm_storeW hM (by simp only [evl]; first | done | with_reducible rfl) (by simp only [evl, dV_cells, nV_cells, lV_cells, cV_cells, cells_agg, cells_int, cells_bool, cells_slice, cells_ptr, cells_func, cells_str, cells_byteV, cells_wV, List.toList_toArray]; first | done | with_reducible rfl) (by simp) (by first | exact dcells_one _ | exact stV_one _ | exact shcells_one _ | exact mtcells_one _ | exact tcells_one _ | exact rcells_one _ | exact ncells_one _ | exact lcells_one _ | exact ccells_one _ | exact bytesV_one _ | exact ivc_one _ | (simp [Value.oneCell']; done)) (by (repeat (first | exact Upd.head _ | apply Upd.tail | apply Upd.app)); first | done | fail) (by simp) ?_); clear hM; intro w hM; (try simp only [nrm]))))
        exact ret_cell rfl hM rfl (by (repeat (first | exact mHd | apply mTl | apply mAp)); first | done | fail) (by simp) rfl ⟨rfl, hM.below⟩

theorem leafC_any (x : Claim) (h : okClaim x) (salt : Dig) (w0 : World) (hG : Glo w0) :
    Calls Tryd.prog 103 #[cV x, dV salt] w0 (RetP w0 (dV (claimD x salt))) := by
  obtain ⟨c, t, g⟩ := x
  obtain ⟨h1, h2, h3, h4⟩ := h
  obtain ⟨c, rfl⟩ := Int.eq_ofNat_of_zero_le h1
  obtain ⟨t, rfl⟩ := Int.eq_ofNat_of_zero_le h3
  simp only at h2 h4
  have := leafC_any0 c t (if g then 1 else 0) g rfl (by omega) (by omega) salt w0 hG
  simpa [claimD, claimNs] using this
end Go.Proofs.YtelnilllleempaaDoor
