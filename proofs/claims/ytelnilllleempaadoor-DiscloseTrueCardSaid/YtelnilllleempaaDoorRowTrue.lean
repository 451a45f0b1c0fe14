/-
  DiscloseTrue answers true for every input, and its arguments read behind the call as they read before.
  Condition: the two tables of the digest (start, numbers) hold what the program's text lays; the card ties them.
-/
import Derived.Test.YtelnilllleempaaDoorTrue42
import Derived.Test.YtelnilllleempaaDoorSaneW
import Derived.Test.YtelnilllleempaaDoorRow
import Derived.Test.YtelnilllleempaaDoorOpen2
import Derived.Test.YtelnilllleempaaDoorTie
import Derived.Test.YtelnilllleempaaDoorCards
import Derived.SevenTiedAt
namespace Go.Proofs.YtelnilllleempaaDoor
set_option linter.all false
open Go Go.RowKit Go.ChangeShapes Go.WideShapes Go.ChangeAt

set_option maxRecDepth 100000 in
theorem discloseTrue_lifted (os : Os) (started : os.Started) (H : Type) (enc : TypeId × Value → H) :
    ReturnsInHanded {} Tryd.checked os 6 .any (fun w args => (Rows.discloseTrueSpec.pre enc Tryd.prog Tryd.f6 [] false w args ∧ laidMetH Tryd.prog laid2 w) ∧ sizedMet enc Tryd.prog Tryd.f6 (OpenSpec.ofChange Rows.discloseTrueSpec) false w args)
      (Rows.discloseTrueSpec.post enc Tryd.prog Tryd.f6 false true false false) := by
  refine returnsInHanded_of_change_and (C := Tryd.checked) (X := fun w _ => laidMetH Tryd.prog laid2 w) (fun _ _ _ hh h => h.of_heap hh) own started (by kernel_rfl) Tryd.func6
    (ChangeSpec.witness_shaped (enc := enc) (C := Tryd.checked) (os := os) (X := fun w _ => laidMetH Tryd.prog laid2 w) false (World.doorLaid Tryd.prog 400 os) #[tV zeroTrn, shV zeroShn] 8 rfl (World.shaped_of_RefB (by kernel_rfl) (by kernel_rfl)) (by kernel_rfl) (by kernel_rfl) (by kernel_rfl) (door_met os _)) ?_
  intro W base args ds gs before hval0 hW _ _ hL _
  have hval : ∀ (j : Nat) t v, Tryd.f6.params[j]? = some t → args[j]? = some v → Value.okWide Tryd.prog W .any base t v := hval0
  have hW' := hW
  have hlt0 := hW'.lt
  obtain ⟨p, q, hA0, hV, rfl, hfz, hnd⟩ := hW
  have hA : DataW.TrodAll enc Tryd.prog W 0 (fun _ => true) true Tryd.f6.params.toList args.toList ds p := hA0
  rw [Tryd.params6] at hA hval
  obtain ⟨v0, v1, d0, d1, p0, p1, rfl, rfl, rfl, h0, h1⟩ := trodAll_two hA
  obtain ⟨rfl, rfl⟩ := trodVars_none hV
  have hG := glo_of_laid hL
  obtain ⟨cs0, rfl, hsz0⟩ := okWide_struct under_trn (hval 0 27 v0 rfl rfl)
  have k0 := h0
  obtain ⟨fuel0, hr0⟩ := h0
  obtain ⟨t0, L0, C0, hcs0, hL0, hC0⟩ := open_trn (cs := cs0.toList) hr0
  obtain rfl : cs0 = (tcells t0).toArray := by rw [← hcs0]
  obtain ⟨cs1, rfl, hsz1⟩ := okWide_struct under_shn (hval 1 66 v1 rfl rfl)
  have k1 := h1
  obtain ⟨fuel1, hr1⟩ := h1
  obtain ⟨s1, P1, hcs1, hP1⟩ := open_shn (cs := cs1.toList) hr1
  obtain rfl : cs1 = (shcells s1).toArray := by rw [← hcs1]
  clear hA0 hval0
  simp only [List.append_nil] at hW' hlt0
  refine (true42_any sane42_any t0 L0 C0 s1 P1 W hG hL0 hC0 hP1).mono fun e W' ⟨he, hb⟩ => ?_
  subst he
  have e1 : Rows.discloseTrueSpec.fn H ([d0, d1] ++ []) = { results := [.lit (.bool true)], args := [d0, d1] } := rfl
  refine ⟨_, rfl, _, _, _, [], (p0 ++ p1), [], hW', ?_, ?_, ?_, hb.frame _, fun h => by cases h⟩
  · rw [e1]; exact trodAll_mk1 (shut_bool under_bool true)
  · rw [e1]; exact trodAll_mk2 (Below.trod laidOut (by kernel_rfl) (of_decide_eq_true (by kernel_rfl)) k0 hb (fun x hx => hlt0 x (by simp [hx]))) (Below.trod laidOut (by kernel_rfl) (of_decide_eq_true (by kernel_rfl)) k1 hb (fun x hx => hlt0 x (by simp [hx])))
  · rw [e1]; rfl

theorem discloseTrue_said : Rows.DiscloseTrueSaid :=
  OpenClaim.holds_of_wide 6 Tryd.f6 rfl rfl rfl rfl rfl rfl rfl ⟨rfl, rfl, rfl, rfl, rfl⟩ rfl rfl rfl rfl rfl (by kernel_rfl) Tryd.func6 (by kernel_rfl)
    (of_decide_eq_true (by kernel_rfl)) (by unfold Func.isWrapper; first | (rw [if_pos (by decide +kernel)]; kernel_rfl) | (rw [if_neg (by decide +kernel)]; exact ⟨rfl, rfl⟩))
    (fun os started H enc _ => discloseTrue_lifted os started H enc)

theorem discloseTrue_card : Rows.DiscloseTrueCardSaid :=
  Claim7.holds_tied_plain_at .later [] [.data, .data] true (true, "e1068d9d0322268e75c221a21dc1342362ec4c2ec5bbaea2959c10f7ecbb46b6") true
    discloseTrue_said (fun _ h => by cases h) (by kernel_rfl) (fun _ h => by cases h) discloseTrue_row_tie rfl ⟨rfl, rfl⟩ (by kernel_rfl) rfl
    (fun f fn hf hfn => by
      obtain rfl : f = 6 := Option.some.inj ((show Tryd.prog.funcNamed "sizar/sizarlaw42.DiscloseTrue" = some 6 by kernel_rfl).symm.trans hf) |>.symm
      obtain rfl : fn = Tryd.f6 := (Option.some.inj (Tryd.func6.symm.trans hfn)).symm
      exact ⟨by kernel_rfl, fun j t ht => by
        rw [Tryd.params6] at ht
        have ht' := List.mem_of_getElem? (l := (_ : Array TypeId).toList) (by rw [Array.getElem?_toList]; exact ht)
        simp only [List.mem_cons, List.not_mem_nil, or_false] at ht'
        rcases ht' with rfl | rfl
        · exact (show Tryd.prog.wantsStandIn 27 = false by kernel_rfl)
        · exact (show Tryd.prog.wantsStandIn 66 = false by kernel_rfl)⟩)
    (by kernel_rfl)
#print axioms discloseTrue_card
end Go.Proofs.YtelnilllleempaaDoor
