/- The digest of a list; its paths. -/
import Derived.Test.YtelnilllleempaaDoorDig2
namespace Go.Proofs.YtelnilllleempaaDoor
set_option linter.all false
open Go Go.RowKit

def emptyD : Dig := tagged [101, 109, 112, 116, 121] []
def treeF : Nat → List Dig → Dig
  | 0, _ => emptyD
  | f + 1, l => if l.length = 0 then emptyD else if l.length = 1 then leafD (l.getD 0 zeroDig) else nodeD (treeF f (l.take (halfN l.length))) (treeF f (l.drop (halfN l.length)))
def treeD (l : List Dig) : Dig := treeF l.length l
theorem treeF_any : ∀ (f g : Nat) (l : List Dig), l.length ≤ f → l.length ≤ g → l.length ≤ 1000000000 → treeF f l = treeF g l
  | 0, 0, _, _, _, _ => rfl
  | 0, g + 1, l, h, _, _ => by
    have : l.length = 0 := by omega
    simp [treeF, this]
  | f + 1, 0, l, _, h, _ => by
    have : l.length = 0 := by omega
    simp [treeF, this]
  | f + 1, g + 1, l, h1, h2, h3 => by
    simp only [treeF]
    split
    · rfl
    · split
      · rfl
      · have := halfN_lt l.length (by omega) (by omega)
        rw [treeF_any f g (l.take _) (by simp; omega) (by simp; omega) (by simp; omega), treeF_any f g (l.drop _) (by simp; omega) (by simp; omega) (by simp; omega)]
theorem treeD_nil : treeD [] = emptyD := rfl
theorem treeD_one (d : Dig) : treeD [d] = leafD d := by simp [treeD, treeF]
theorem treeD_one' (l : List Dig) (h : l.length = 1) : treeD l = leafD (l.getD 0 zeroDig) := by simp [treeD, h, treeF]
theorem treeD_more (l : List Dig) (h : 2 ≤ l.length) (h3 : l.length ≤ 1000000000) : treeD l = nodeD (treeD (l.take (halfN l.length))) (treeD (l.drop (halfN l.length))) := by
  have hh := halfN_lt l.length h (by omega)
  unfold treeD
  obtain ⟨f, hf⟩ : ∃ f, l.length = f + 1 := ⟨l.length - 1, by omega⟩
  rw [show treeF l.length l = treeF (f + 1) l by rw [hf]]
  conv => lhs; unfold treeF
  rw [if_neg (by omega), if_neg (by omega), treeF_any f (l.take (halfN l.length)).length _ (by simp; omega) (Nat.le_refl _) (by simp; omega), treeF_any f (l.drop (halfN l.length)).length _ (by simp; omega) (Nat.le_refl _) (by simp; omega)]

@[simp] theorem dsV_length (l : List Dig) : (dsV l).length = l.length * 32 := flatMap_len dcells 32 dcells_length l
theorem dsV_drop (l : List Dig) (i : Nat) : (dsV l).drop (i * 32) = dsV (l.drop i) := flatMap_drop dcells 32 dcells_length l i
theorem dsV_take (l : List Dig) (i : Nat) : (dsV l).take (i * 32) = dsV (l.take i) := flatMap_take dcells 32 dcells_length l i
theorem Sl.lenD {w : World} {A : Option Addr} {n c : Nat} {l : List Dig} (h : SlD w A n c l) : l.length = n := by
  have := h.len; rw [dsV_length] at this; omega
/-- one of them -/
theorem dsV_at {w : World} {b o : Nat} {l : List Dig} (h : w.rangeAt b o (dsV l)) (i : Nat) (hi : i < l.length) : w.rangeAt b (o + i * 32) (dcells (l.getD i zeroDig)) := by
  have h1 := rangeAt_take (rangeAt_drop h (i * 32)) (1 * 32)
  rw [dsV_drop, dsV_take] at h1
  have : (l.drop i).take 1 = [l.getD i zeroDig] := by
    rw [List.drop_eq_getElem_cons hi, List.take_succ_cons, List.take_zero, List.getD_eq_getElem?_getD, List.getElem?_eq_getElem hi]; rfl
  rw [this] at h1
  simpa [dsV] using h1

set_option maxRecDepth 20000 in
set_option maxHeartbeats 800000 in
theorem tree_any : ∀ (N : Nat) (A : Option Addr) (n c : Nat) (l : List Dig) (w0 : World), n ≤ N → Glo w0 → SlD w0 A n c l → n ≤ 1000000 →
    Calls Tryd.prog 61 #[.slice A n c] w0 (RetP w0 (dV (treeD l))) := by
  intro N
  induction N with
  | zero =>
    intro A n c l w0 hN hG h hn
    have hM := Mem.refl w0 []
    have hl := h.lenD
    have h0 : n = 0 := by omega
    subst h0
    have : l = [] := List.eq_nil_of_length_eq_zero hl
    subst this
    go_enter Tryd.func61, Tryd.ntmps61
    go_wp2_with ((first | (with_reducible refine arm_on0 ?_) | (with_reducible refine arm_on (by with_unfolding_all rfl) ?_)); (first | ((with_reducible refine arm_alloc hM ?_); clear hM; intro b w hb hM; (try simp only [nrm])) | ((with_reducible refine arm_storeW hM (by simp only [evl]; first | done | with_reducible rfl) (by simp only [evl, dV_cells, nV_cells, lV_cells, cV_cells, cells_agg, cells_int, cells_bool, cells_slice, cells_ptr, cells_func, cells_str, cells_byteV, cells_wV, List.toList_toArray]; first | done | with_reducible rfl) (by simp) (by first | exact dcells_one _ | exact stV_one _ | exact shcells_one _ | exact mtcells_one _ | exact tcells_one _ | exact rcells_one _ | exact ncells_one _ | exact lcells_one _ | exact ccells_one _ | exact bytesV_one _ | exact ivc_one _ | (simp [Value.oneCell']; done)) (by (repeat (first | exact Upd.head _ | apply Upd.tail | apply Upd.app)); first | done | fail) (by simp) ?_); clear hM; intro w hM; (try simp only [nrm])) | ((with_reducible refine arm_call hM (tagged_any ⟨#[101, 109, 112, 116, 121]⟩ none 0 0 [] _ (hM.glo hG) (by decide) (SlB.nil w) (by omega)) (by simp only [evl]; first | done | with_reducible rfl) (by with_unfolding_all rfl) ?_); clear hM; intro w hM; (try simp only [nrm]))))
    exact ret_cell rfl hM rfl (by (repeat (first | exact mHd | apply mTl | apply mAp)); first | done | fail) (by simp) rfl ⟨rfl, hM.below⟩
  | succ N ih =>
    intro A n c l w0 hN hG h hn
    have hM := Mem.refl w0 []
    have hl := h.lenD
    by_cases h0 : n = 0
    · exact ih A n c l w0 (by omega) hG h hn
    · obtain ⟨b0, o, rfl, hr⟩ := h.at_ (by omega)
      by_cases h1 : n = 1
      · subst h1
        have hx := dsV_at hr 0 (by omega)
        rw [Nat.zero_mul, Nat.add_zero] at hx
        have ht := treeD_one' l (by omega)
        go_enter Tryd.func61, Tryd.ntmps61
        go_wp2_with ((first | (with_reducible refine arm_on0 ?_) | (with_reducible refine arm_on (by with_unfolding_all rfl) ?_)); (first | ((with_reducible refine arm_alloc hM ?_); clear hM; intro b w hb hM; (try simp only [nrm])) | ((with_reducible refine arm_storeW hM (by simp only [evl]; first | done | with_reducible rfl) (by simp only [evl, dV_cells, nV_cells, lV_cells, cV_cells, cells_agg, cells_int, cells_bool, cells_slice, cells_ptr, cells_func, cells_str, cells_byteV, cells_wV, List.toList_toArray]; first | done | with_reducible rfl) (by simp) (by first | exact dcells_one _ | exact stV_one _ | exact shcells_one _ | exact mtcells_one _ | exact tcells_one _ | exact rcells_one _ | exact ncells_one _ | exact lcells_one _ | exact ccells_one _ | exact bytesV_one _ | exact ivc_one _ | (simp [Value.oneCell']; done)) (by (repeat (first | exact Upd.head _ | apply Upd.tail | apply Upd.app)); first | done | fail) (by simp) ?_); clear hM; intro w hM; (try simp only [nrm])) | ((with_reducible refine arm_loadNR (by simp only [evl]; first | done | with_reducible rfl) (hM.old hx) (by first | (simp; done) | with_unfolding_all rfl) ?_); (try simp only [nrm])) | ((with_reducible refine arm_call hM (leaf_any (l.getD 0 zeroDig) _ (hM.glo hG)) (by simp only [evl]; first | done | with_reducible rfl) (by with_unfolding_all rfl) ?_); clear hM; intro w hM; (try simp only [nrm]))))
        try rw [ht]
        exact ret_cell rfl hM rfl (by (repeat (first | exact mHd | apply mTl | apply mAp)); first | done | fail) (by simp) rfl ⟨rfl, hM.below⟩
      · have ht := treeD_more l (by omega) (by omega)
        have hh := halfN_lt n (by omega) (by omega)
        have hc1 := h.le
        rw [hl] at ht
        have hcut := h.cut (p := c = halfN n) (halfN n) (by omega) Iff.rfl
        have hhead := h.head (halfN n) (by omega)
        rw [dsV_drop] at hcut
        rw [dsV_take] at hhead
        have hhc : ((halfN n : Nat) : Int) ≤ c := by omega
        have hhn : ((halfN n : Nat) : Int) ≤ n := by omega
        go_enter Tryd.func61, Tryd.ntmps61
        go_wp2_with ((first | (with_reducible refine arm_on0 ?_) | (with_reducible refine arm_on (by with_unfolding_all rfl) ?_)); (first | ((with_reducible refine arm_alloc hM ?_); clear hM; intro b w hb hM; (try simp only [nrm])) | ((with_reducible refine arm_storeW hM (by simp only [evl]; first | done | with_reducible rfl) (by simp only [evl, dV_cells, nV_cells, lV_cells, cV_cells, cells_agg, cells_int, cells_bool, cells_slice, cells_ptr, cells_func, cells_str, cells_byteV, cells_wV, List.toList_toArray]; first | done | with_reducible rfl) (by simp) (by first | exact dcells_one _ | exact stV_one _ | exact shcells_one _ | exact mtcells_one _ | exact tcells_one _ | exact rcells_one _ | exact ncells_one _ | exact lcells_one _ | exact ccells_one _ | exact bytesV_one _ | exact ivc_one _ | (simp [Value.oneCell']; done)) (by (repeat (first | exact Upd.head _ | apply Upd.tail | apply Upd.app)); first | done | fail) (by simp) ?_); clear hM; intro w hM; (try simp only [nrm])) | ((with_reducible refine arm_callW (half_any n (by omega) (by omega) _) (by simp only [evl]; first | done | with_reducible rfl) (by with_unfolding_all rfl) ?_); (try simp only [nrm]))))
        (refine wpB.beginM 10 [3, 7, 8, 9] rfl (by kernel_rfl) hM ?_; clear hM; intro w hM; have hS := hM; refine wpB.tkW 0 (hS := (by first | exact fun _ => hS | exact fun h => absurd h (by decide +kernel))) (hy := fun w => by (go_simp; with_reducible rfl)) (h := ?_); (try simp only [nrm]); refine wpB.tkW 1 (hS := (by first | exact fun _ => hS | exact fun h => absurd h (by decide +kernel))) (hy := fun w => by (go_simp; with_reducible rfl)) (h := ?_); (try simp only [nrm]); refine wpB.tkW 2 (hS := (by first | exact fun _ => hS | exact fun h => absurd h (by decide +kernel))) (hy := fun w => by (go_simp; first | with_reducible rfl | (refine (if_pos ?_).trans ?_; (omega); with_reducible rfl) | (refine (if_neg ?_).trans ?_; (omega); with_reducible rfl))) (h := ?_); (try simp only [nrm]); refine wpB.tkW 4 (hS := (by first | exact fun _ => hS | exact fun h => absurd h (by decide +kernel))) (hy := fun w => by (go_simp; with_reducible rfl)) (h := ?_); (try simp only [nrm]); refine wpB.tkW 5 (hS := (by first | exact fun _ => hS | exact fun h => absurd h (by decide +kernel))) (hy := fun w => by (go_simp; with_reducible rfl)) (h := ?_); (try simp only [nrm]); refine wpB.tkW 6 (hS := (by first | exact fun _ => hS | exact fun h => absurd h (by decide +kernel))) (hy := fun w => by (go_simp; first | with_reducible rfl | (refine (if_pos ?_).trans ?_; (omega); with_reducible rfl) | (refine (if_neg ?_).trans ?_; (omega); with_reducible rfl))) (h := ?_); (try simp only [nrm]); refine wpB.only 3 (by simp only [List.getElem?_toArray, List.getElem?_cons_succ, List.getElem?_cons_zero]; with_reducible rfl) (by kernel_rfl) (by with_unfolding_all rfl) ?_; ((with_reducible refine arm_call hM (ih _ _ _ _ _ (by omega) (hM.glo hG) (hM.sl hhead) (by omega)) (by simp only [evl]; first | done | with_reducible rfl) (by with_unfolding_all rfl) ?_); clear hM; intro w hM; (try simp only [nrm])); (clear hS; have hS := hM; refine ⟨fun h => absurd h (by decide +kernel), ?_⟩); refine wpB.only 7 (by simp only [List.getElem?_toArray, List.getElem?_cons_succ, List.getElem?_cons_zero]; with_reducible rfl) (by kernel_rfl) (by with_unfolding_all rfl) ?_; ((with_reducible refine arm_call hM (ih _ _ _ _ _ (by omega) (hM.glo hG) (hM.sl hcut) (by omega)) (by simp only [evl]; first | done | with_reducible rfl) (by with_unfolding_all rfl) ?_); clear hM; intro w hM; (try simp only [nrm])); (clear hS; have hS := hM; refine ⟨fun h => absurd h (by decide +kernel), ?_⟩); refine wpB.only 8 (by simp only [List.getElem?_toArray, List.getElem?_cons_succ, List.getElem?_cons_zero]; with_reducible rfl) (by kernel_rfl) (by with_unfolding_all rfl) ?_; ((with_reducible refine arm_call hM (node_any _ _ _ (hM.glo hG)) (by simp only [evl]; first | done | with_reducible rfl) (by with_unfolding_all rfl) ?_); clear hM; intro w hM; (try simp only [nrm])); (clear hS; have hS := hM; refine ⟨fun h => absurd h (by decide +kernel), ?_⟩); refine wpB.only 9 (by simp only [List.getElem?_toArray, List.getElem?_cons_succ, List.getElem?_cons_zero]; with_reducible rfl) (by kernel_rfl) (by with_unfolding_all rfl) ?_; ((with_reducible refine arm_storeW hM (by simp only [evl]; first | done | with_reducible rfl) (by simp only [evl, dV_cells, nV_cells, lV_cells, cV_cells, cells_agg, cells_int, cells_bool, cells_slice, cells_ptr, cells_func, cells_str, cells_byteV, cells_wV, List.toList_toArray]; first | done | with_reducible rfl) (by simp) (by first | exact dcells_one _ | exact stV_one _ | exact shcells_one _ | exact mtcells_one _ | exact tcells_one _ | exact rcells_one _ | exact ncells_one _ | exact lcells_one _ | exact ccells_one _ | exact bytesV_one _ | exact ivc_one _ | (simp [Value.oneCell']; done)) (by (repeat (first | exact Upd.head _ | apply Upd.tail | apply Upd.app)); first | done | fail) (by simp) ?_); clear hM; intro w hM; (try simp only [nrm])); (clear hS; have hS := hM; refine ⟨fun h => absurd h (by decide +kernel), ?_⟩); refine wpB.done (by kernel_rfl) ?_ _)
        go_wp2_with ((first | (with_reducible refine arm_on0 ?_) | (with_reducible refine arm_on (by with_unfolding_all rfl) ?_)); (first | ((with_reducible refine arm_loadW hM (by simp only [evl]; first | done | with_reducible rfl) (by (repeat (first | exact mHd | apply mTl | apply mAp)); first | done | fail) (by first | (simp; done) | with_unfolding_all rfl) ?_); (try simp only [nrm]))))
        try rw [ht]
        exact ret_cell rfl hM rfl (by (repeat (first | exact mHd | apply mTl | apply mAp)); first | done | fail) (by simp) rfl ⟨rfl, hM.below⟩
end Go.Proofs.YtelnilllleempaaDoor
