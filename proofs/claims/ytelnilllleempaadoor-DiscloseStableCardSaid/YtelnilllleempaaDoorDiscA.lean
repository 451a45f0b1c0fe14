/- What lists lines and claims: the small functions of disclose. -/
import Derived.Test.YtelnilllleempaaDoorLeaf
import Derived.Test.YtelnilllleempaaDoorMore
namespace Go.Proofs.YtelnilllleempaaDoor
set_option linter.all false
open Go Go.RowKit

def inB (n lo hi : Int) : Bool := decide (lo ≤ n ∧ n ≤ hi)
theorem in_any (n lo hi : Int) (w0 : World) : Calls Tryd.prog 62 #[.int .i64 n, .int .i64 lo, .int .i64 hi] w0 fun e w' => e = .returned (.bool (inB n lo hi)) ∧ w0 = w' := by
  by_cases h1 : lo ≤ n
  · by_cases h2 : n ≤ hi
    · have : inB n lo hi = true := by simp [inB, h1, h2]
      rw [this]
      go_enter Tryd.func62, Tryd.ntmps62
      go_wp2_with ((first | (with_reducible refine arm_on0 ?_) | (with_reducible refine arm_on (by with_unfolding_all rfl) ?_)); (first | ((with_reducible refine arm_cmpB (by with_unfolding_all simp) (by simp only [evl]; first | done | with_reducible rfl) (by simp only [evl]; first | done | with_reducible rfl) (by with_unfolding_all first | exact decide_eq_false (by omega) | exact decide_eq_true (by omega) | exact beq_false_of_ne (by omega)) ?_); (try simp only [nrm]))))
      go_ret
      exact ⟨rfl, rfl⟩
    · have : inB n lo hi = false := by simp [inB, h2]
      rw [this]
      go_enter Tryd.func62, Tryd.ntmps62
      go_wp2_with ((first | (with_reducible refine arm_on0 ?_) | (with_reducible refine arm_on (by with_unfolding_all rfl) ?_)); (first | ((with_reducible refine arm_cmpB (by with_unfolding_all simp) (by simp only [evl]; first | done | with_reducible rfl) (by simp only [evl]; first | done | with_reducible rfl) (by with_unfolding_all first | exact decide_eq_false (by omega) | exact decide_eq_true (by omega) | exact beq_false_of_ne (by omega)) ?_); (try simp only [nrm]))))
      go_ret
      exact ⟨rfl, rfl⟩
  · have : inB n lo hi = false := by simp [inB, h1]
    rw [this]
    go_enter Tryd.func62, Tryd.ntmps62
    go_wp2_with ((first | (with_reducible refine arm_on0 ?_) | (with_reducible refine arm_on (by with_unfolding_all rfl) ?_)); (first | ((with_reducible refine arm_cmpB (by with_unfolding_all simp) (by simp only [evl]; first | done | with_reducible rfl) (by simp only [evl]; first | done | with_reducible rfl) (by with_unfolding_all first | exact decide_eq_false (by omega) | exact decide_eq_true (by omega) | exact beq_false_of_ne (by omega)) ?_); (try simp only [nrm]))))
    go_ret
    exact ⟨rfl, rfl⟩
theorem in_eq (n lo hi : Int) (B : Bool) (h : inB n lo hi = B) (w0 : World) : Calls Tryd.prog 62 #[.int .i64 n, .int .i64 lo, .int .i64 hi] w0 fun e w' => e = .returned (.bool B) ∧ w0 = w' := h ▸ in_any n lo hi w0

def lineB (x : Line) : Bool := inB x.course 0 4095 && (inB x.term 0 1023 && (inB x.grade 0 12 && (inB x.credits 0 60 && inB x.campus 0 6)))
theorem lineB_eq (x : Line) : lineB x = decide (okLine x) := by
  simp only [lineB, inB, ← Bool.decide_and, okLine]
  congr 1
  apply propext
  constructor
  · rintro ⟨⟨h1, h2⟩, ⟨h3, h4⟩, ⟨h5, h6⟩, ⟨h7, h8⟩, h9, h10⟩
    exact ⟨h1, by omega, h3, by omega, h5, h6, h7, h8, h9, by omega⟩
  · rintro ⟨h1, h2, h3, h4, h5, h6, h7, h8, h9, h10⟩
    exact ⟨⟨h1, by omega⟩, ⟨h3, by omega⟩, ⟨h5, h6⟩, ⟨h7, h8⟩, h9, by omega⟩

set_option maxRecDepth 20000 in
set_option maxHeartbeats 1600000 in
theorem validLine_any (x : Line) (w0 : World) : Calls Tryd.prog 99 #[lV x] w0 (RetP w0 (.bool (decide (okLine x)))) := by
  have hM := Mem.refl w0 []
  rw [← lineB_eq]
  obtain ⟨c, t, g, k, p⟩ := x
  cases h1 : inB c 0 4095
  · have hr : lineB ⟨c, t, g, k, p⟩ = false := by simp [lineB, h1]
    rw [hr]
    go_enter Tryd.func99, Tryd.ntmps99
    go_wp2_with ((first | (with_reducible refine arm_on0 ?_) | (with_reducible refine arm_on (by with_unfolding_all rfl) ?_)); (first | (with_reducible refine arm_box (T := 63) (vs := [.int .i64 c, .int .i64 t, .int .i64 g, .int .i64 k, .int .i64 p]) hM (by with_unfolding_all rfl) ?_; clear hM; intro lb w hlb hM; (try simp only [nrm])) | ((with_reducible refine arm_load1 hM (by simp only [evl]; first | done | with_reducible rfl) (by (repeat (first | exact mHd | apply mTl | apply mAp)); first | done | fail) (by first | (with_unfolding_all rfl) | (simp; done)) ?_); (try simp only [nrm])) | (((with_reducible refine arm_callW (in_eq _ _ _ _ h1 _) (by simp only [evl]; first | done | with_reducible rfl) (by with_unfolding_all rfl) ?_); (try simp only [nrm])))))
    go_ret; exact ⟨rfl, hM.below⟩
  cases h2 : inB t 0 1023
  · have hr : lineB ⟨c, t, g, k, p⟩ = false := by simp [lineB, h2]
    rw [hr]
    go_enter Tryd.func99, Tryd.ntmps99
    go_wp2_with ((first | (with_reducible refine arm_on0 ?_) | (with_reducible refine arm_on (by with_unfolding_all rfl) ?_)); (first | (with_reducible refine arm_box (T := 63) (vs := [.int .i64 c, .int .i64 t, .int .i64 g, .int .i64 k, .int .i64 p]) hM (by with_unfolding_all rfl) ?_; clear hM; intro lb w hlb hM; (try simp only [nrm])) | ((with_reducible refine arm_load1 hM (by simp only [evl]; first | done | with_reducible rfl) (by (repeat (first | exact mHd | apply mTl | apply mAp)); first | done | fail) (by first | (with_unfolding_all rfl) | (simp; done)) ?_); (try simp only [nrm])) | (((with_reducible refine arm_callW (in_eq _ _ _ _ h1 _) (by simp only [evl]; first | done | with_reducible rfl) (by with_unfolding_all rfl) ?_); (try simp only [nrm]))) | (((with_reducible refine arm_callW (in_eq _ _ _ _ h2 _) (by simp only [evl]; first | done | with_reducible rfl) (by with_unfolding_all rfl) ?_); (try simp only [nrm])))))
    go_ret; exact ⟨rfl, hM.below⟩
  cases h3 : inB g 0 12
  · have hr : lineB ⟨c, t, g, k, p⟩ = false := by simp [lineB, h3]
    rw [hr]
    go_enter Tryd.func99, Tryd.ntmps99
    go_wp2_with ((first | (with_reducible refine arm_on0 ?_) | (with_reducible refine arm_on (by with_unfolding_all rfl) ?_)); (first | (with_reducible refine arm_box (T := 63) (vs := [.int .i64 c, .int .i64 t, .int .i64 g, .int .i64 k, .int .i64 p]) hM (by with_unfolding_all rfl) ?_; clear hM; intro lb w hlb hM; (try simp only [nrm])) | ((with_reducible refine arm_load1 hM (by simp only [evl]; first | done | with_reducible rfl) (by (repeat (first | exact mHd | apply mTl | apply mAp)); first | done | fail) (by first | (with_unfolding_all rfl) | (simp; done)) ?_); (try simp only [nrm])) | (((with_reducible refine arm_callW (in_eq _ _ _ _ h1 _) (by simp only [evl]; first | done | with_reducible rfl) (by with_unfolding_all rfl) ?_); (try simp only [nrm]))) | (((with_reducible refine arm_callW (in_eq _ _ _ _ h2 _) (by simp only [evl]; first | done | with_reducible rfl) (by with_unfolding_all rfl) ?_); (try simp only [nrm]))) | (((with_reducible refine arm_callW (in_eq _ _ _ _ h3 _) (by simp only [evl]; first | done | with_reducible rfl) (by with_unfolding_all rfl) ?_); (try simp only [nrm])))))
    go_ret; exact ⟨rfl, hM.below⟩
  cases h4 : inB k 0 60
  · have hr : lineB ⟨c, t, g, k, p⟩ = false := by simp [lineB, h4]
    rw [hr]
    go_enter Tryd.func99, Tryd.ntmps99
    go_wp2_with ((first | (with_reducible refine arm_on0 ?_) | (with_reducible refine arm_on (by with_unfolding_all rfl) ?_)); (first | (with_reducible refine arm_box (T := 63) (vs := [.int .i64 c, .int .i64 t, .int .i64 g, .int .i64 k, .int .i64 p]) hM (by with_unfolding_all rfl) ?_; clear hM; intro lb w hlb hM; (try simp only [nrm])) | ((with_reducible refine arm_load1 hM (by simp only [evl]; first | done | with_reducible rfl) (by (repeat (first | exact mHd | apply mTl | apply mAp)); first | done | fail) (by first | (with_unfolding_all rfl) | (simp; done)) ?_); (try simp only [nrm])) | (((with_reducible refine arm_callW (in_eq _ _ _ _ h1 _) (by simp only [evl]; first | done | with_reducible rfl) (by with_unfolding_all rfl) ?_); (try simp only [nrm]))) | (((with_reducible refine arm_callW (in_eq _ _ _ _ h2 _) (by simp only [evl]; first | done | with_reducible rfl) (by with_unfolding_all rfl) ?_); (try simp only [nrm]))) | (((with_reducible refine arm_callW (in_eq _ _ _ _ h3 _) (by simp only [evl]; first | done | with_reducible rfl) (by with_unfolding_all rfl) ?_); (try simp only [nrm]))) | (((with_reducible refine arm_callW (in_eq _ _ _ _ h4 _) (by simp only [evl]; first | done | with_reducible rfl) (by with_unfolding_all rfl) ?_); (try simp only [nrm])))))
    go_ret; exact ⟨rfl, hM.below⟩
  · generalize h5 : inB p 0 6 = B
    have hr : lineB ⟨c, t, g, k, p⟩ = B := by simp [lineB, h1, h2, h3, h4, h5]
    rw [hr]
    go_enter Tryd.func99, Tryd.ntmps99
    go_wp2_with ((first | (with_reducible refine arm_on0 ?_) | (with_reducible refine arm_on (by with_unfolding_all rfl) ?_)); (first | (with_reducible refine arm_box (T := 63) (vs := [.int .i64 c, .int .i64 t, .int .i64 g, .int .i64 k, .int .i64 p]) hM (by with_unfolding_all rfl) ?_; clear hM; intro lb w hlb hM; (try simp only [nrm])) | ((with_reducible refine arm_load1 hM (by simp only [evl]; first | done | with_reducible rfl) (by (repeat (first | exact mHd | apply mTl | apply mAp)); first | done | fail) (by first | (with_unfolding_all rfl) | (simp; done)) ?_); (try simp only [nrm])) | (((with_reducible refine arm_callW (in_eq _ _ _ _ h1 _) (by simp only [evl]; first | done | with_reducible rfl) (by with_unfolding_all rfl) ?_); (try simp only [nrm]))) | (((with_reducible refine arm_callW (in_eq _ _ _ _ h2 _) (by simp only [evl]; first | done | with_reducible rfl) (by with_unfolding_all rfl) ?_); (try simp only [nrm]))) | (((with_reducible refine arm_callW (in_eq _ _ _ _ h3 _) (by simp only [evl]; first | done | with_reducible rfl) (by with_unfolding_all rfl) ?_); (try simp only [nrm]))) | (((with_reducible refine arm_callW (in_eq _ _ _ _ h4 _) (by simp only [evl]; first | done | with_reducible rfl) (by with_unfolding_all rfl) ?_); (try simp only [nrm]))) | (((with_reducible refine arm_callW (in_eq _ _ _ _ h5 _) (by simp only [evl]; first | done | with_reducible rfl) (by with_unfolding_all rfl) ?_); (try simp only [nrm])))))
    go_ret; exact ⟨rfl, hM.below⟩

def okClaim (x : Claim) : Prop := 0 ≤ x.prog ∧ x.prog < 256 ∧ 0 ≤ x.req ∧ x.req < 64
instance (x : Claim) : Decidable (okClaim x) := by unfold okClaim; infer_instance
theorem claimB_eq (x : Claim) : (inB x.prog 0 255 && inB x.req 0 63) = decide (okClaim x) := by
  simp only [inB, ← Bool.decide_and, okClaim]
  congr 1
  apply propext
  constructor
  · rintro ⟨⟨h1, h2⟩, h3, h4⟩
    exact ⟨h1, by omega, h3, by omega⟩
  · rintro ⟨h1, h2, h3, h4⟩
    exact ⟨⟨h1, by omega⟩, h3, by omega⟩

set_option maxRecDepth 20000 in
set_option maxHeartbeats 1600000 in
theorem validClaim_any (x : Claim) (w0 : World) : Calls Tryd.prog 104 #[cV x] w0 (RetP w0 (.bool (decide (okClaim x)))) := by
  have hM := Mem.refl w0 []
  rw [← claimB_eq]
  obtain ⟨c, t, g⟩ := x
  cases h1 : inB c 0 255
  · have hr : (inB c 0 255 && inB t 0 63) = false := by simp [h1]
    go_enter Tryd.func104, Tryd.ntmps104
    go_wp2_with ((first | (with_reducible refine arm_on0 ?_) | (with_reducible refine arm_on (by with_unfolding_all rfl) ?_)); (first | (with_reducible refine arm_box (T := 71) (vs := [.int .i64 c, .int .i64 t, .bool g]) hM (by with_unfolding_all rfl) ?_; clear hM; intro lb w hlb hM; (try simp only [nrm])) | ((with_reducible refine arm_load1 hM (by simp only [evl]; first | done | with_reducible rfl) (by (repeat (first | exact mHd | apply mTl | apply mAp)); first | done | fail) (by first | (with_unfolding_all rfl) | (simp; done)) ?_); (try simp only [nrm])) | (((with_reducible refine arm_callW (in_eq _ _ _ _ h1 _) (by simp only [evl]; first | done | with_reducible rfl) (by with_unfolding_all rfl) ?_); (try simp only [nrm])))))
    go_ret; exact ⟨rfl, hM.below⟩
  · generalize h2 : inB t 0 63 = B
    go_enter Tryd.func104, Tryd.ntmps104
    go_wp2_with ((first | (with_reducible refine arm_on0 ?_) | (with_reducible refine arm_on (by with_unfolding_all rfl) ?_)); (first | (with_reducible refine arm_box (T := 71) (vs := [.int .i64 c, .int .i64 t, .bool g]) hM (by with_unfolding_all rfl) ?_; clear hM; intro lb w hlb hM; (try simp only [nrm])) | ((with_reducible refine arm_load1 hM (by simp only [evl]; first | done | with_reducible rfl) (by (repeat (first | exact mHd | apply mTl | apply mAp)); first | done | fail) (by first | (with_unfolding_all rfl) | (simp; done)) ?_); (try simp only [nrm])) | (((with_reducible refine arm_callW (in_eq _ _ _ _ h1 _) (by simp only [evl]; first | done | with_reducible rfl) (by with_unfolding_all rfl) ?_); (try simp only [nrm]))) | (((with_reducible refine arm_callW (in_eq _ _ _ _ h2 _) (by simp only [evl]; first | done | with_reducible rfl) (by with_unfolding_all rfl) ?_); (try simp only [nrm])))))
    go_ret; exact ⟨by simp, hM.below⟩

/-! what orders them -/
def noWL (x : Line) : Int := wrap64 (wrap64 (4096 * x.term) + x.course)
def noWC (x : Claim) : Int := wrap64 (wrap64 (64 * x.prog) + x.req)
def noNL (x : Line) : Nat := (4096 * x.term + x.course).toNat
def noNC (x : Claim) : Nat := (64 * x.prog + x.req).toNat
theorem noWL_ok (x : Line) (h : okLine x) : noWL x = (noNL x : Nat) := by
  obtain ⟨h1, h2, h3, h4, _⟩ := h
  unfold noWL noNL
  unfold wrap64; omega
theorem noWC_ok (x : Claim) (h : okClaim x) : noWC x = (noNC x : Nat) := by
  obtain ⟨h1, h2, h3, h4⟩ := h
  unfold noWC noNC
  unfold wrap64; omega
theorem noNL_lt (x : Line) (h : okLine x) : noNL x < 4611686018427387904 := by
  obtain ⟨h1, h2, h3, h4, _⟩ := h
  unfold noNL; omega
theorem noNC_lt (x : Claim) (h : okClaim x) : noNC x < 4611686018427387904 := by
  obtain ⟨h1, h2, h3, h4⟩ := h
  unfold noNC; omega

set_option maxHeartbeats 400000 in
theorem noL_any (x : Line) (w0 : World) : Calls Tryd.prog 97 #[lV x] w0 (RetP w0 (.int .i64 (noWL x))) := by
  have hM := Mem.refl w0 []
  obtain ⟨c, t, g, k, p⟩ := x
  go_enter Tryd.func97, Tryd.ntmps97
  go_wp2_with ((first | (with_reducible refine arm_on0 ?_) | (with_reducible refine arm_on (by with_unfolding_all rfl) ?_)); (first | (with_reducible refine arm_box (T := 63) (vs := [.int .i64 c, .int .i64 t, .int .i64 g, .int .i64 k, .int .i64 p]) hM (by with_unfolding_all rfl) ?_; clear hM; intro lb w hlb hM; (try simp only [nrm])) | ((with_reducible refine arm_load1 hM (by simp only [evl]; first | done | with_reducible rfl) (by (repeat (first | exact mHd | apply mTl | apply mAp)); first | done | fail) (by first | (with_unfolding_all rfl) | (simp; done)) ?_); (try simp only [nrm]))))
  go_ret
  exact ⟨rfl, hM.below⟩
set_option maxHeartbeats 400000 in
theorem noC_any (x : Claim) (w0 : World) : Calls Tryd.prog 102 #[cV x] w0 (RetP w0 (.int .i64 (noWC x))) := by
  have hM := Mem.refl w0 []
  obtain ⟨c, t, g⟩ := x
  go_enter Tryd.func102, Tryd.ntmps102
  go_wp2_with ((first | (with_reducible refine arm_on0 ?_) | (with_reducible refine arm_on (by with_unfolding_all rfl) ?_)); (first | (with_reducible refine arm_box (T := 71) (vs := [.int .i64 c, .int .i64 t, .bool g]) hM (by with_unfolding_all rfl) ?_; clear hM; intro lb w hlb hM; (try simp only [nrm])) | ((with_reducible refine arm_load1 hM (by simp only [evl]; first | done | with_reducible rfl) (by (repeat (first | exact mHd | apply mTl | apply mAp)); first | done | fail) (by first | (with_unfolding_all rfl) | (simp; done)) ?_); (try simp only [nrm]))))
  go_ret
  exact ⟨rfl, hM.below⟩

def linesC : List Value := [.int .i64 1, .func (.func 99) #[] #[], .func (.func 97) #[] #[], .func (.func 98) #[] #[]]
def claimsC : List Value := [.int .i64 2, .func (.func 104) #[] #[], .func (.func 102) #[] #[], .func (.func 103) #[] #[]]
def linesV : Value := .agg linesC.toArray
def claimsV : Value := .agg claimsC.toArray
set_option maxRecDepth 20000 in
set_option maxHeartbeats 800000 in
theorem lines_any (w0 : World) : Calls Tryd.prog 63 #[] w0 (RetP w0 linesV) := by
  have hM := Mem.refl w0 []
  go_enter Tryd.func63, Tryd.ntmps63
  go_wp2_with ((first | (with_reducible refine arm_on0 ?_) | (with_reducible refine arm_on (by with_unfolding_all rfl) ?_)); (first | ((with_reducible refine arm_alloc hM ?_); clear hM; intro b w hb hM; (try simp only [nrm])) | ((with_reducible refine arm_storeW hM (by simp only [evl]; first | done | with_reducible rfl) (by simp only [evl, dV_cells, nV_cells, lV_cells, cV_cells, cells_agg, cells_int, cells_bool, cells_slice, cells_ptr, cells_func, cells_str, cells_byteV, cells_wV, List.toList_toArray]; first | done | with_reducible rfl) (by simp) (by first | exact dcells_one _ | exact stV_one _ | exact shcells_one _ | exact mtcells_one _ | exact tcells_one _ | exact rcells_one _ | exact ncells_one _ | exact lcells_one _ | exact ccells_one _ | exact bytesV_one _ | exact ivc_one _ | (simp [Value.oneCell']; done)) (by (repeat (first | exact Upd.head _ | apply Upd.tail | apply Upd.app)); first | done | fail) (by simp) ?_); clear hM; intro w hM; (try simp only [nrm]))))
  exact ret_cell rfl hM rfl (by (repeat (first | exact mHd | apply mTl | apply mAp)); first | done | fail) (by with_unfolding_all rfl) rfl ⟨rfl, hM.below⟩
set_option maxRecDepth 20000 in
set_option maxHeartbeats 800000 in
theorem claims_any (w0 : World) : Calls Tryd.prog 65 #[] w0 (RetP w0 claimsV) := by
  have hM := Mem.refl w0 []
  go_enter Tryd.func65, Tryd.ntmps65
  go_wp2_with ((first | (with_reducible refine arm_on0 ?_) | (with_reducible refine arm_on (by with_unfolding_all rfl) ?_)); (first | ((with_reducible refine arm_alloc hM ?_); clear hM; intro b w hb hM; (try simp only [nrm])) | ((with_reducible refine arm_storeW hM (by simp only [evl]; first | done | with_reducible rfl) (by simp only [evl, dV_cells, nV_cells, lV_cells, cV_cells, cells_agg, cells_int, cells_bool, cells_slice, cells_ptr, cells_func, cells_str, cells_byteV, cells_wV, List.toList_toArray]; first | done | with_reducible rfl) (by simp) (by first | exact dcells_one _ | exact stV_one _ | exact shcells_one _ | exact mtcells_one _ | exact tcells_one _ | exact rcells_one _ | exact ncells_one _ | exact lcells_one _ | exact ccells_one _ | exact bytesV_one _ | exact ivc_one _ | (simp [Value.oneCell']; done)) (by (repeat (first | exact Upd.head _ | apply Upd.tail | apply Upd.app)); first | done | fail) (by simp) ?_); clear hM; intro w hM; (try simp only [nrm]))))
  exact ret_cell rfl hM rfl (by (repeat (first | exact mHd | apply mTl | apply mAp)); first | done | fail) (by with_unfolding_all rfl) rfl ⟨rfl, hM.below⟩
end Go.Proofs.YtelnilllleempaaDoor
