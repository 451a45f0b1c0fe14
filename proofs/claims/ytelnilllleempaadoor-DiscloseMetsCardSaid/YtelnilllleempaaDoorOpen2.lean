/- What an argument reads as: more types. -/
import Derived.Test.YtelnilllleempaaDoorOpen
namespace Go.Proofs.YtelnilllleempaaDoor
set_option linter.all false
open Go Go.RowKit

theorem take_one_of {cs : List Value} {v : Value} (h : cs[0]? = some v) : cs.take 1 = [v] := by
  cases cs with
  | nil => simp at h
  | cons a r => simp at h; subst h; rfl
theorem cut_at (cs : List Value) (a b : Nat) : cs.drop a = (cs.drop a).take b ++ cs.drop (a + b) := by
  rw [← List.drop_drop]; exact (List.take_append_drop b (cs.drop a)).symm

section
variable {H : Type} {enc : TypeId × Value → H} {w : World} {base : Nat} {spare : Nat → Bool} {held : Bool} {fuel : Nat} {cs : List Value} {x : DataW H × List MemPlace}
theorem open_shn (h : DataW.trod enc Tryd.prog w base spare held fuel 66 cs = some x) : ∃ (s : Shn) (P : List Dig), cs = shcells s ∧ SlD w s.A s.n s.c P := by
  obtain ⟨hl, hf⟩ := open_fields (P := Tryd.prog) (T := 66) (k := 39) [(3, 0, 1), (63, 1, 5), (25, 6, 32), (64, 38, 1)] (by kernel_rfl) (by kernel_rfl) (by kernel_rfl) h
  obtain ⟨a, h0⟩ := one_int under_int (hf 0 _ rfl)
  obtain ⟨m1, y1, h1⟩ := hf 1 _ rfl
  obtain ⟨m2, y2, h2⟩ := hf 2 _ rfl
  obtain ⟨m3, y3, h3⟩ := hf 3 _ rfl
  obtain ⟨l, e1⟩ := open_line h1
  obtain ⟨s, e2⟩ := open_dig h2
  obtain ⟨A, n, c, P, e3, hP⟩ := open_sl dcells 32 dcells_length (by omega) under_digs (by kernel_rfl) (fun _ _ _ h => open_dig h) h3
  refine ⟨⟨a, l, s, A, n, c⟩, P, ?_, hP⟩
  have e0 := take_one_of h0
  have c0 := cut_at cs 0 1
  have c1 := cut_at cs 1 5
  have c2 := cut_at cs 6 32
  have c3 := cut_at cs 38 1
  have c4 : cs.drop 39 = [] := List.drop_of_length_le (by omega)
  simp only at e1 e2 e3
  rw [List.drop_zero] at c0
  rw [c0, e0, c1, e1, c2, e2, c3, e3, c4]
  rfl
theorem open_mtt (h : DataW.trod enc Tryd.prog w base spare held fuel 73 cs = some x) : ∃ (s : Mtt) (P : List Dig), cs = mtcells s ∧ SlD w s.A s.n s.c P := by
  obtain ⟨hl, hf⟩ := open_fields (P := Tryd.prog) (T := 73) (k := 37) [(3, 0, 1), (71, 1, 3), (25, 4, 32), (64, 36, 1)] (by kernel_rfl) (by kernel_rfl) (by kernel_rfl) h
  obtain ⟨a, h0⟩ := one_int under_int (hf 0 _ rfl)
  obtain ⟨m1, y1, h1⟩ := hf 1 _ rfl
  obtain ⟨m2, y2, h2⟩ := hf 2 _ rfl
  obtain ⟨m3, y3, h3⟩ := hf 3 _ rfl
  obtain ⟨l, e1⟩ := open_claim h1
  obtain ⟨s, e2⟩ := open_dig h2
  obtain ⟨A, n, c, P, e3, hP⟩ := open_sl dcells 32 dcells_length (by omega) under_digs (by kernel_rfl) (fun _ _ _ h => open_dig h) h3
  refine ⟨⟨a, l, s, A, n, c⟩, P, ?_, hP⟩
  have e0 := take_one_of h0
  have c0 := cut_at cs 0 1
  have c1 := cut_at cs 1 3
  have c2 := cut_at cs 4 32
  have c3 := cut_at cs 36 1
  have c4 : cs.drop 37 = [] := List.drop_of_length_le (by omega)
  simp only at e1 e2 e3
  rw [List.drop_zero] at c0
  rw [c0, e0, c1, e1, c2, e2, c3, e3, c4]
  rfl
end
end Go.Proofs.YtelnilllleempaaDoor
