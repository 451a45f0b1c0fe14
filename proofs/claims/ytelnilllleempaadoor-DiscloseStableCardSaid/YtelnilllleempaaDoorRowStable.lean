/-
  DiscloseStable answers true for every input, and its arguments read behind the call as they read before.
  Condition: the two tables of the digest (start, numbers) hold what the program's text lays; the card ties them.
-/
import Derived.Test.YtelnilllleempaaDoorStable42
import Derived.Test.YtelnilllleempaaDoorSaneW
import Derived.Test.YtelnilllleempaaDoorRow
import Derived.Test.YtelnilllleempaaDoorTie
import Derived.Test.YtelnilllleempaaDoorCards
import Derived.SevenTiedAt
namespace Go.Proofs.YtelnilllleempaaDoor
set_option linter.all false
open Go Go.RowKit Go.ChangeShapes Go.WideShapes Go.ChangeAt

set_option maxRecDepth 100000 in
theorem discloseStable_lifted (os : Os) (started : os.Started) (H : Type) (enc : TypeId × Value → H) :
    ReturnsInHanded {} Tryd.checked os 8 .any (fun w args => (Rows.discloseStableSpec.pre enc Tryd.prog Tryd.f8 [] false w args ∧ laidMetH Tryd.prog laid2 w) ∧ sizedMet enc Tryd.prog Tryd.f8 (OpenSpec.ofChange Rows.discloseStableSpec) false w args)
      (Rows.discloseStableSpec.post enc Tryd.prog Tryd.f8 false true false false) := by
  refine returnsInHanded_of_change_and (C := Tryd.checked) (X := fun w _ => laidMetH Tryd.prog laid2 w) (fun _ _ _ hh h => h.of_heap hh) own started (by kernel_rfl) Tryd.func8
    (ChangeSpec.witness_shaped (enc := enc) (C := Tryd.checked) (os := os) (X := fun w _ => laidMetH Tryd.prog laid2 w) false (World.doorLaid Tryd.prog 400 os) #[tV zeroTrn, tV zeroTrn] 8 rfl (World.shaped_of_RefB (by kernel_rfl) (by kernel_rfl)) (by kernel_rfl) (by kernel_rfl) (by kernel_rfl) (door_met os _)) ?_
  intro W base args ds gs before hval0 hW _ _ hL _
  have hval : ∀ (j : Nat) t v, Tryd.f8.params[j]? = some t → args[j]? = some v → Value.okWide Tryd.prog W .any base t v := hval0
  have hW' := hW
  have hlt0 := hW'.lt
  obtain ⟨p, q, hA0, hV, rfl, hfz, hnd⟩ := hW
  have hA : DataW.TrodAll enc Tryd.prog W 0 (fun _ => true) true Tryd.f8.params.toList args.toList ds p := hA0
  rw [Tryd.params8] at hA hval
  obtain ⟨v0, v1, d0, d1, p0, p1, rfl, rfl, rfl, h0, h1⟩ := trodAll_two hA
  obtain ⟨rfl, rfl⟩ := trodVars_none hV
  have hG := glo_of_laid hL
  obtain ⟨cs0, rfl, hsz0⟩ := okWide_struct under_trn (hval 0 27 v0 rfl rfl)
  have k0 := h0
  obtain ⟨fuel0, hr0⟩ := h0
  obtain ⟨t0, L0, C0, hcs0, hL0, hC0⟩ := open_trn (cs := cs0.toList) hr0
  obtain rfl : cs0 = (tcells t0).toArray := by rw [← hcs0]
  obtain ⟨cs1, rfl, hsz1⟩ := okWide_struct under_trn (hval 1 27 v1 rfl rfl)
  have k1 := h1
  obtain ⟨fuel1, hr1⟩ := h1
  obtain ⟨t1, L1, C1, hcs1, hL1, hC1⟩ := open_trn (cs := cs1.toList) hr1
  obtain rfl : cs1 = (tcells t1).toArray := by rw [← hcs1]
  clear hA0 hval0
  simp only [List.append_nil] at hW' hlt0
  refine (stable42_any sane42_any t0 L0 C0 t1 L1 C1 W hG hL0 hC0 hL1 hC1).mono fun e W' ⟨he, hb⟩ => ?_
  subst he
  have e1 : Rows.discloseStableSpec.fn H ([d0, d1] ++ []) = { results := [.lit (.bool true)], args := [d0, d1] } := rfl
  refine ⟨_, rfl, _, _, _, [], (p0 ++ p1), [], hW', ?_, ?_, ?_, hb.frame _, fun h => by cases h⟩
  · rw [e1]; exact trodAll_mk1 (shut_bool under_bool true)
  · rw [e1]; exact trodAll_mk2 (Below.trod laidOut (by kernel_rfl) (of_decide_eq_true (by kernel_rfl)) k0 hb (fun x hx => hlt0 x (by simp [hx]))) (Below.trod laidOut (by kernel_rfl) (of_decide_eq_true (by kernel_rfl)) k1 hb (fun x hx => hlt0 x (by simp [hx])))
  · rw [e1]; rfl

theorem discloseStable_said : Rows.DiscloseStableSaid :=
  OpenClaim.holds_of_wide 8 Tryd.f8 rfl rfl rfl rfl rfl rfl rfl ⟨rfl, rfl, rfl, rfl, rfl⟩ rfl rfl rfl rfl rfl (by kernel_rfl) Tryd.func8 (by kernel_rfl)
    (of_decide_eq_true (by kernel_rfl)) (by unfold Func.isWrapper; first | (rw [if_pos (by decide +kernel)]; kernel_rfl) | (rw [if_neg (by decide +kernel)]; exact ⟨rfl, rfl⟩))
    (fun os started H enc _ => discloseStable_lifted os started H enc)

theorem discloseStable_card : Rows.DiscloseStableCardSaid :=
  Claim7.holds_tied_plain_at .later [] [.data, .data] true (true, "e1068d9d0322268e75c221a21dc1342362ec4c2ec5bbaea2959c10f7ecbb46b6") true
    discloseStable_said (fun _ h => by cases h) (by kernel_rfl) (fun _ h => by cases h) discloseStable_row_tie rfl ⟨rfl, rfl⟩ (by kernel_rfl) rfl
    (fun f fn hf hfn => by
      obtain rfl : f = 8 := Option.some.inj ((show Tryd.prog.funcNamed "sizar/sizarlaw42.DiscloseStable" = some 8 by kernel_rfl).symm.trans hf) |>.symm
      obtain rfl : fn = Tryd.f8 := (Option.some.inj (Tryd.func8.symm.trans hfn)).symm
      exact ⟨by kernel_rfl, fun j t ht => by
        rw [Tryd.params8] at ht
        have ht' := List.mem_of_getElem? (l := (_ : Array TypeId).toList) (by rw [Array.getElem?_toList]; exact ht)
        simp only [List.mem_cons, List.not_mem_nil, or_false] at ht'
        rcases ht' with rfl | rfl
        · exact (show Tryd.prog.wantsStandIn 27 = false by kernel_rfl)
        · exact (show Tryd.prog.wantsStandIn 27 = false by kernel_rfl)⟩)
    (by kernel_rfl)
#print axioms discloseStable_card
end Go.Proofs.YtelnilllleempaaDoor
