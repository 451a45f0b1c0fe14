/- What the listed variables hold; the rows of the statements. -/
import Derived.Test.YtelnilllleempaaDoorOpen
import Derived.Test.YtelnilllleempaaDoorSha
import Derived.Lib.LaidTab
import Derived.LaidMore
import Derived.Stop.Joined
import Derived.Stop.LaidErr
namespace Go.Proofs.YtelnilllleempaaDoor
set_option linter.all false
open Go Go.RowKit Go.ChangeShapes Go.WideShapes

theorem own : ownKnob Tryd.prog.godebug = none := by kernel_rfl
theorem laidOut : laidOutB Tryd.prog = true := by kernel_rfl
theorem gStart : Tryd.prog.globalNamed "sizar/digest.start" = some 0 := by kernel_rfl
theorem gNums : Tryd.prog.globalNamed "sizar/digest.numbers" = some 1 := by kernel_rfl
theorem tStart : (Tryd.prog.globals[0]?).map (·.type) = some 191 := by kernel_rfl
theorem tNums : (Tryd.prog.globals[1]?).map (·.type) = some 210 := by kernel_rfl
theorem under_8 : (Tryd.prog).underlying 191 = some (.array 8 190) := by kernel_rfl
theorem under_64 : (Tryd.prog).underlying 210 = some (.array 64 190) := by kernel_rfl
theorem under_u32 : (Tryd.prog).underlying 190 = some (.int .u32) := by kernel_rfl

def laid2 : List (String × DataW Unit) := [("sizar/digest.start", Rows.laid_sizar_digest_start), ("sizar/digest.numbers", Rows.laid_sizar_digest_numbers)]
def zs0 : List Int := st0.l.map fun p => (p.toNat : Int)
def zs1 : List Int := kTab.map fun p => (p.toNat : Int)
theorem start_tab : (Rows.laid_sizar_digest_start : DataW Unit) = Lib.tabData .u32 zs0 := by rfl
theorem nums_tab : (Rows.laid_sizar_digest_numbers : DataW Unit) = Lib.tabData .u32 zs1 := by rfl

theorem tab_range {W : World} {name : String} {g : Nat} {zs : List Int} (h : Lib.TabIs Tryd.prog W name .u32 zs) (hg : Tryd.prog.globalNamed name = some g) : W.rangeAt g 0 (zs.map fun z => Value.int .u32 z) := fun j v hv => by
  rw [List.getElem?_map] at hv
  cases hz : zs[j]? with
  | none => rw [hz] at hv; cases hv
  | some z =>
    rw [hz] at hv
    simp only [Option.map_some, Option.some.injEq] at hv
    subst hv
    have hj : j < zs.length := (List.getElem?_eq_some_iff.1 hz).1
    have := h.cell hg j hj
    rw [List.getD_eq_getElem?_getD, hz] at this
    rw [Nat.zero_add]
    exact this

theorem glo_of_laid {W : World} (h : laidMetH Tryd.prog laid2 W) : Glo W := by
  rw [MakeChecks.laidMetH_plain _ _ _ (by kernel_rfl)] at h
  unfold laid2 at h
  rw [start_tab, nums_tab] at h
  have h1 := Lib.tabIs_of_head gStart tStart under_8 under_u32 (by kernel_rfl) (by kernel_rfl) h
  have h2 := Lib.tabIs_of_head gNums tNums under_64 under_u32 (by kernel_rfl) (by kernel_rfl) (laidMet.tail h)
  have r1 := tab_range h1 gStart
  have r2 := tab_range h2 gNums
  refine ⟨?_, ?_⟩
  · have e : stV st0 = zs0.map fun z => Value.int .u32 z := by simp [zs0, stV, wsV, wV, List.map_map, Function.comp]
    rw [e]; exact r1
  · have e : wsV kTab = zs1.map fun z => Value.int .u32 z := by simp [zs1, wsV, wV, List.map_map, Function.comp]
    rw [e]; exact r2

theorem door_met (os : Os) (args : Array Value) : laidMetH Tryd.prog laid2 ((World.doorLaid Tryd.prog 400 os).forCall (fun _ _ => 0) ⟨#[], args, []⟩).memory :=
  laidMetH_of_parts3 (fuel := 8) (laidMet_of_run' 8 (by kernel_rfl) (by kernel_rfl)) (by kernel_rfl) (by kernel_rfl)
theorem under_trn : (Tryd.prog).underlying 27 = some (.struct ((Tryd.prog).fieldsOf 27)) := by kernel_rfl
theorem under_shn : (Tryd.prog).underlying 66 = some (.struct ((Tryd.prog).fieldsOf 66)) := by kernel_rfl
theorem under_mtt : (Tryd.prog).underlying 73 = some (.struct ((Tryd.prog).fieldsOf 73)) := by kernel_rfl
end Go.Proofs.YtelnilllleempaaDoor
