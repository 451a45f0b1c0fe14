/- slices.Grow, Concat, Clone of bytes. -/
import Derived.Test.YtelnilllleempaaDoorDig1
namespace Go.Proofs.YtelnilllleempaaDoor
set_option linter.all false
open Go Go.RowKit
set_option maxHeartbeats 400000 in
theorem grow_any (n : Nat) (hn : n ≤ 1000000000) (w0 : World) :
    Calls Tryd.prog 114 #[.slice none 0 0, .int .i64 (n : Int)] w0 (RetO w0 5 1 0 []) := by
  have hM := Mem.refl w0 []
  have e1 : IntKind.i64.wrap ((n : Int) - 0) = n := by rw [IntKind.wrap_i64]; omega
  go_enter Tryd.func114, Tryd.ntmps114
  by_cases h0 : n = 0
  · subst h0
    go_wp2_with ((first | (with_reducible refine arm_on0 ?_) | (with_reducible refine arm_on (by with_unfolding_all rfl) ?_)); (first | fail))
    go_ret
    exact ⟨_, _, rfl, .nil, hM⟩
  · go_wp2_with ((first | (with_reducible refine arm_on0 ?_) | (with_reducible refine arm_on (by with_unfolding_all rfl) ?_)); (first | ((with_reducible refine arm_append_zeros hM (by simp only [evl]; first | done | with_reducible rfl) (by simp only [evl]; first | done | with_reducible rfl) ((show 0 < n by omega)) (by omega) ((by omega)) (by unfold maxLen; omega) ?_); clear hM; intro b cap tl w hb hcap hcapm htl hM; (try simp only [nrm]))))
    go_ret
    exact ⟨_, _, rfl, .row b 0 cap [] tl (by omega) hcapm rfl (by simpa using htl), hM⟩

/-- a part that is joined -/
structure Pt where
  A : Option Addr
  n : Nat
  c : Nat
  l : List UInt8
def Pt.v (p : Pt) : Value := .slice p.A p.n p.c
def ptLen (ps : List Pt) : Nat := (ps.map (·.n)).sum
def ptB (ps : List Pt) : List UInt8 := ps.flatMap (·.l)
theorem ptLen_append (a b : List Pt) : ptLen (a ++ b) = ptLen a + ptLen b := by unfold ptLen; rw [List.map_append, List.sum_append]
theorem ptLen_take_succ (ps : List Pt) (k : Nat) (h : k < ps.length) : ptLen (ps.take (k + 1)) = ptLen (ps.take k) + (ps[k]).n := by
  rw [List.take_succ_eq_append_getElem h, ptLen_append]; simp [ptLen]
theorem ptLen_take_le (ps : List Pt) (k : Nat) : ptLen (ps.take k) ≤ ptLen ps := by
  conv => rhs; rw [← List.take_append_drop k ps]
  rw [ptLen_append]; omega
theorem ptB_take_succ (ps : List Pt) (k : Nat) (h : k < ps.length) : ptB (ps.take (k + 1)) = ptB (ps.take k) ++ (ps[k]).l := by
  rw [List.take_succ_eq_append_getElem h]; simp only [ptB, List.flatMap_append]; simp

set_option maxHeartbeats 800000 in
theorem concat_any (b0 c0 : Nat) (ps : List Pt) (w0 : World) (hc : ps.length ≤ c0) (hcm : c0 ≤ maxLen) (hps : w0.rangeAt b0 0 (ps.map Pt.v)) (hsl : ∀ p ∈ ps, SlB w0 p.A p.n p.c p.l) (hn : ptLen ps ≤ 1000000000) (hpl : ps.length ≤ 1000000) :
    Calls Tryd.prog 74 #[.slice (some ⟨b0, 0, none⟩) ps.length c0] w0 (RetO w0 5 1 (ptLen ps) (bytesV (ptB ps))) := by
  have hM := Mem.refl w0 []
  have hcell : ∀ k (h : k < ps.length), w0.cell? ⟨b0, k, none⟩ = some (.slice (ps[k]).A (ps[k]).n (ps[k]).c) := fun k h => by
    have := hps k (ps[k]).v (by simp [List.getElem?_eq_getElem h])
    rw [Nat.zero_add] at this
    exact this
  go_enter Tryd.func74, Tryd.ntmps74
  go_wp2_with ((first | (with_reducible refine arm_on0 ?_) | (with_reducible refine arm_on (by with_unfolding_all rfl) ?_)); (first | fail))
  go_loopw [3, 11] (fun s i wr => ∃ (k : Nat), k ≤ ps.length ∧ s = .int .i64 (ptLen (ps.take k) : Nat) ∧ i = .int .i64 k ∧ Mem w0 [] [] wr) (fun _ i _ => ps.length - (intOf i).toNat)
  case atStart => exact ⟨0, by omega, (by first | rfl | trivial | (congr 1; omega) | (congr 2; omega)), (by first | rfl | trivial | (congr 1; omega) | (congr 2; omega)), hM⟩
  case round =>
    clear hM
    obtain ⟨k, hk, rfl, rfl, hM⟩ := hrel
    by_cases hkn : k < ps.length
    · have h1 := hM.oldc (hcell k hkn)
      have h2 := ptLen_take_succ ps k hkn
      have h3 := ptLen_take_le ps (k + 1)
      have hlen := (hsl _ (List.getElem_mem hkn))
      generalize ps[k] = p at h1 h2 hlen
      go_wp2_with ((first | (with_reducible refine arm_on0 ?_) | (with_reducible refine arm_on (by with_unfolding_all rfl) ?_)); (first | ((with_reducible refine arm_load1R (by simp only [evl]; first | done | with_reducible rfl) (h1) ?_); (try simp only [nrm]))))
      go_roundw
      case rel => exact ⟨k + 1, by omega, (by first | rfl | trivial | (congr 1; omega) | (congr 2; omega)), (by first | rfl | trivial | (congr 1; omega) | (congr 2; omega)), hM⟩
      case measure => simp [intOf]; omega
    · have : k = ps.length := by omega
      subst this
      rw [List.take_length] at *
      go_wp2_with ((first | (with_reducible refine arm_on0 ?_) | (with_reducible refine arm_on (by with_unfolding_all rfl) ?_)); (first | ((with_reducible refine arm_callO hM (grow_any _ hn _) (by simp only [evl]; first | done | with_reducible rfl) (by with_unfolding_all rfl) ?_); clear hM; intro v ho w hO hM; (try simp only [nrm]))))
      go_loopw [6, 27] (fun v i wr => ∃ (k : Nat) (ho : List Ent), k ≤ ps.length ∧ i = .int .i64 k ∧ Own 5 1 v (ptLen (ps.take k)) (bytesV (ptB (ps.take k))) ho ∧ Mem w0 [] (ho ++ []) wr) (fun _ i _ => ps.length - (intOf i).toNat)
      case atStart => exact ⟨0, _, by omega, (by first | rfl | trivial | (congr 1; omega) | (congr 2; omega)), hO, hM⟩
      case round =>
        clear hM hO
        obtain ⟨k, ho, hk, rfl, hO, hM⟩ := hrel
        by_cases hkn : k < ps.length
        · have h1 := hM.oldc (hcell k hkn)
          have h2 := ptLen_take_succ ps k hkn
          have h4 := ptB_take_succ ps k hkn
          have h3 := ptLen_take_le ps (k + 1)
          have hlen := (hsl _ (List.getElem_mem hkn))
          generalize ps[k] = p at h1 h2 hlen h4
          have hlen := hM.sl hlen
          go_wp2_with ((first | (with_reducible refine arm_on0 ?_) | (with_reducible refine arm_on (by with_unfolding_all rfl) ?_)); (first | ((with_reducible refine arm_load1R (by simp only [evl]; first | done | with_reducible rfl) (h1) ?_); (try simp only [nrm])) | ((with_reducible refine arm_append_own (ho := ho) (hs := []) hO hM (by simp only [evl]; first | done | with_reducible rfl) (by simp only [evl]; first | done | with_reducible rfl) (hlen) (bytesV_one _) (by omega) (by unfold maxLen; omega) ?_); clear hM; intro v ho w hO hM; (try simp only [nrm]))))
          go_roundw
          case rel => exact ⟨k + 1, ho, by omega, (by first | rfl | trivial | (congr 1; omega) | (congr 2; omega)), by rw [h2, h4, bytesV_append]; exact hO, hM⟩
          case measure => simp [intOf]; omega
        · have : k = ps.length := by omega
          subst this
          rw [List.take_length] at *
          go_wp2_with ((first | (with_reducible refine arm_on0 ?_) | (with_reducible refine arm_on (by with_unfolding_all rfl) ?_)); (first | fail))
          go_ret
          exact ⟨_, _, rfl, hO, by simpa using hM⟩
set_option maxRecDepth 10000 in
set_option maxHeartbeats 400000 in
theorem clone_any (A : Option Addr) (n c : Nat) (l : List UInt8) (w0 : World) (h : SlB w0 A n c l) (hn : n ≤ 1000000000) :
    Calls Tryd.prog 116 #[.slice A n c] w0 (RetO w0 5 1 n (bytesV l)) := by
  have hM := Mem.refl w0 []
  go_enter Tryd.func116, Tryd.ntmps116
  rcases A with _ | A
  · have hn0 : n = 0 := by
      rcases Nat.eq_zero_or_pos n with h0 | h0
      · exact h0
      · obtain ⟨b, o, h1, _⟩ := h.at_ h0; cases h1
    subst hn0
    have hl : l = [] := List.eq_nil_of_length_eq_zero h.lenB
    subst hl
    go_wp2_with ((first | (with_reducible refine arm_on0 ?_) | (with_reducible refine arm_on (by with_unfolding_all rfl) ?_)); (first | ((with_reducible refine arm_eqNil (by simp only [evl]; first | done | with_reducible rfl) (by simp only [evl]; first | done | with_reducible rfl) ?_); (try simp only [nrm]); try simp only [Option.isNone_none, Option.isNone_some])))
    go_ret
    exact ⟨_, _, rfl, .nil, hM⟩
  · go_wp2_with ((first | (with_reducible refine arm_on0 ?_) | (with_reducible refine arm_on (by with_unfolding_all rfl) ?_)); (first | ((with_reducible refine arm_eqNil (by simp only [evl]; first | done | with_reducible rfl) (by simp only [evl]; first | done | with_reducible rfl) ?_); (try simp only [nrm]); try simp only [Option.isNone_none, Option.isNone_some]) | ((with_reducible refine arm_build0 hM ?_); clear hM; intro b w hb hM; (try simp only [nrm])) | ((with_reducible refine arm_append_own (ho := [(b, 5, [])]) (hs := []) (Own.row b 0 0 [] [] (by omega) (by decide) rfl rfl) hM (by simp only [evl]; first | done | with_reducible rfl) (by simp only [evl]; first | done | with_reducible rfl) ((hM.sl h)) (bytesV_one _) (by omega) (by unfold maxLen; omega) ?_); clear hM; intro v ho w hO hM; (try simp only [nrm]))))
    go_ret
    exact ⟨_, _, rfl, by simpa using hO, by simpa using hM⟩
theorem concat2_any (b T : Nat) (A1 A2 : Option Addr) (n1 c1 n2 c2 : Nat) (l1 l2 : List UInt8) (w : World) (hb : HasE w (b, T, [.slice A1 n1 c1, .slice A2 n2 c2])) (h1 : SlB w A1 n1 c1 l1) (h2 : SlB w A2 n2 c2 l2) (hn : n1 + n2 ≤ 1000000000) :
    Calls Tryd.prog 74 #[.slice (some ⟨b, 0, none⟩) 2 2] w (RetO w 5 1 (n1 + n2) (bytesV (l1 ++ l2))) := by
  have := concat_any b 2 [⟨A1, n1, c1, l1⟩, ⟨A2, n2, c2, l2⟩] w (Nat.le_refl _) (by decide) (by have := hb.range 0 2; simpa [Pt.v] using this) (by
    intro p hp
    simp only [List.mem_cons, List.not_mem_nil, or_false] at hp
    rcases hp with rfl | rfl
    · exact h1
    · exact h2) (by simpa [ptLen] using hn) (by simp)
  simpa [ptLen, ptB] using this
theorem concat3_any (b T : Nat) (A1 A2 A3 : Option Addr) (n1 c1 n2 c2 n3 c3 : Nat) (l1 l2 l3 : List UInt8) (w : World) (hb : HasE w (b, T, [.slice A1 n1 c1, .slice A2 n2 c2, .slice A3 n3 c3])) (h1 : SlB w A1 n1 c1 l1) (h2 : SlB w A2 n2 c2 l2) (h3 : SlB w A3 n3 c3 l3) (hn : n1 + (n2 + n3) ≤ 1000000000) :
    Calls Tryd.prog 74 #[.slice (some ⟨b, 0, none⟩) 3 3] w (RetO w 5 1 (n1 + (n2 + n3)) (bytesV (l1 ++ (l2 ++ l3)))) := by
  have := concat_any b 3 [⟨A1, n1, c1, l1⟩, ⟨A2, n2, c2, l2⟩, ⟨A3, n3, c3, l3⟩] w (Nat.le_refl _) (by decide) (by have := hb.range 0 3; simpa [Pt.v] using this) (by
    intro p hp
    simp only [List.mem_cons, List.not_mem_nil, or_false] at hp
    rcases hp with rfl | rfl | rfl
    · exact h1
    · exact h2
    · exact h3) (by simpa [ptLen] using hn) (by simp)
  simpa [ptLen, ptB] using this

end Go.Proofs.YtelnilllleempaaDoor
