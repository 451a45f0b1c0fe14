/- Slices: making, appending, copying, cutting; said of the list of known blocks. -/
import Derived.Test.YtelnilllleempaaDoorData
import Derived.Deep.AppendSrc
import Derived.Lib.AppendZeros
import Derived.Laws.IdiomStrings
namespace Go.Proofs.YtelnilllleempaaDoor
set_option linter.all false
open Go Go.RowKit

/-- a slice that this call owns: nil, or the head of a row of its own -/
inductive Own (e : TypeId) (size : Nat) : Value → Nat → List Value → List Ent → Prop
  | nil : Own e size (.slice none 0 0) 0 [] []
  | row (g n cap : Nat) (xs tl : List Value) (hn : n ≤ cap) (hc : cap ≤ maxLen) (hx : xs.length = n * size) (ht : tl.length = (cap - n) * size) : Own e size (.slice (some ⟨g, 0, none⟩) n cap) n xs [(g, e, xs ++ tl)]

theorem Own.cases' {e : TypeId} {size : Nat} {v : Value} {n : Nat} {xs : List Value} {ho : List Ent} (h : Own e size v n xs ho) : (v = .slice none 0 0 ∧ n = 0 ∧ xs = [] ∧ ho = []) ∨
    ∃ g cap tl, v = .slice (some ⟨g, 0, none⟩) n cap ∧ n ≤ cap ∧ cap ≤ maxLen ∧ xs.length = n * size ∧ tl.length = (cap - n) * size ∧ ho = [(g, e, xs ++ tl)] := by
  cases h with
  | nil => exact .inl ⟨rfl, rfl, rfl, rfl⟩
  | row g n cap xs tl hn hc hx ht => exact .inr ⟨g, cap, tl, rfl, hn, hc, hx, ht, rfl⟩
theorem Own.form {e : TypeId} {size : Nat} {v : Value} {n : Nat} {xs : List Value} {ho : List Ent} (h : Own e size v n xs ho) : ∃ A c, v = .slice A n c := by
  cases h with
  | nil => exact ⟨_, _, rfl⟩
  | row g n cap xs tl hn hc hx ht => exact ⟨_, _, rfl⟩
theorem Own.len {e : TypeId} {size : Nat} {v : Value} {n : Nat} {xs : List Value} {ho : List Ent} (h : Own e size v n xs ho) : xs.length = n * size := by
  cases h with
  | nil => simp
  | row g n cap xs tl hn hc hx ht => exact hx

/-- an owned slice reads as what it holds -/
theorem Own.sl {w0 w : World} {X : List Nat} {hs ho : List Ent} {e : TypeId} {size : Nat} {v : Value} {n : Nat} {xs : List Value} (h : Own e size v n xs ho) (hM : Mem w0 X (ho ++ hs) w) : ∃ A c, v = .slice A n c ∧ Sl w A n c size xs := by
  cases h with
  | nil => exact ⟨none, 0, rfl, ⟨by simp, Nat.le_refl _, by decide, fun h => absurd h (by decide)⟩⟩
  | row g n cap xs tl hn hc hx ht =>
    exact ⟨_, cap, rfl, hM.sl_ent (b := g) (T := e) (cs := xs ++ tl) (by simp) 0 (by rw [List.drop_zero, ← hx, List.take_left]) hx hn hc⟩

theorem Own.slOf {w0 w : World} {X : List Nat} {hs ho : List Ent} {e : TypeId} {size : Nat} {A : Option Addr} {n c : Nat} {xs : List Value} (h : Own e size (.slice A n c) n xs ho) (hM : Mem w0 X (ho ++ hs) w) : Sl w A n c size xs := by
  obtain ⟨A', c', e, h⟩ := h.sl hM
  cases e
  exact h
section
variable {P : Program}

/-- what 'append' takes -/
theorem Sl.src {w : World} {A : Option Addr} {m c size : Nat} {news : List Value} {tx e' : TypeId} (h : Sl w A m c size news) (hk : P.underlying tx = some (.slice e')) (h1 : ∀ u ∈ news, u.oneCell' = true) : Src P size tx (.slice A m c) m news w := by
  rcases A with _ | ad
  · have hm : m = 0 := by
      rcases Nat.eq_zero_or_pos m with h0 | h0
      · exact h0
      · obtain ⟨b, o, h, _⟩ := h.at_ h0; cases h
    subst hm
    have hn : news = [] := List.eq_nil_of_length_eq_zero (by simpa using h.len)
    subst hn
    exact Src.ofNil w hk c
  · refine Src.ofSlice w hk ad m c news h.len (fun j u hu => ?_) h1
    have hj : j < news.length := (List.getElem?_eq_some_iff.1 hu).1
    have hm : 0 < m := by
      rcases Nat.eq_zero_or_pos m with h0 | h0
      · have := h.len; rw [h0, Nat.zero_mul] at this; omega
      · exact h0
    obtain ⟨b, o, hA, hr⟩ := h.at_ hm
    cases hA
    rw [Addr.add_mid]
    exact hr j u hu

theorem Sl.firstCells {w : World} {A : Option Addr} {n c size : Nat} {xs : List Value} (h : Sl w A n c size xs) : (Builtin.firstCells size n (.slice A n c)).run P w.drew = .ok xs.toArray w.drew := by
  rcases A with _ | ad
  · have hm : n = 0 := by
      rcases Nat.eq_zero_or_pos n with h0 | h0
      · exact h0
      · obtain ⟨b, o, h, _⟩ := h.at_ h0; cases h
    subst hm
    have hn : xs = [] := List.eq_nil_of_length_eq_zero (by simpa using h.len)
    subst hn
    exact run_firstCells_none w.drew size 0 0 c
  · refine run_firstCells_some w.drew size n ad n c xs h.len (fun j u hu => ?_)
    have hj : j < xs.length := (List.getElem?_eq_some_iff.1 hu).1
    have hm : 0 < n := by
      rcases Nat.eq_zero_or_pos n with h0 | h0
      · have := h.len; rw [h0, Nat.zero_mul] at this; omega
      · exact h0
    obtain ⟨b, o, hA, hr⟩ := h.at_ hm
    cases hA
    rw [World.cell?_drew, Addr.add_mid]
    exact hr j u hu

theorem slice_info {t e size bytes : Nat} {zs : List Value} [h : SliceOf P t e size bytes zs] : ∃ (i : TypeInfo) (z : Value), P.underlying t = some (.slice e) ∧ P.info? e = some i ∧ i.zero = some z ∧ i.size = size ∧ i.bytes = bytes ∧ z.cells = zs.toArray := by
  have h2 := h.info
  cases hq : P.info? e with
  | none => simp [hq] at h2
  | some i =>
    cases hz : i.zero with
    | none => simp [hq, hz] at h2
    | some z =>
      simp only [hq, hz, Option.map_some, Option.some.injEq, Prod.mk.injEq] at h2
      refine ⟨i, z, h.elem, rfl, hz, h2.1, h2.2.1, ?_⟩
      rw [← h2.2.2]

end

section arms
variable {P : Program} {Q : Exit → Act → World → Prop} {K : Act → World → Prop} {a : Act} {w0 w : World} {X : List Nat} {hs hs' ho : List Ent} {dst : Option Tmp} {ty : TypeId} {pos : String} {af : Array Edge} {g : Option (Nat × Bool)}

/-- append that must grow: a new row -/
theorem arm_append_grow {t e size bytes : Nat} {zs : List Value} {x y : Operand} {A A' : Option Addr} {n c m c' : Nat} {xs news : List Value} [hT : SliceOf P t e size bytes zs] (hM : Mem w0 X hs w)
    (hx : a.eval x = .slice A n c) (hy : a.eval y = .slice A' m c') (hs1 : Sl w A n c size xs) (hs2 : Sl w A' m c' size news) (h1 : ∀ u ∈ news, u.oneCell' = true)
    (hlt : c < n + m) (hb : (n + m) * bytes ≤ 140737488355328) (hml : n + m ≤ maxLen)
    (h : ∀ b cap tl w', w0.heap.size ≤ b → n + m ≤ cap → cap ≤ maxLen → tl.length = (cap - (n + m)) * size → Mem w0 X ((b, e, (xs ++ news) ++ tl) :: hs) w' → K (a.put dst (.slice (some ⟨b, 0, none⟩) (n + m) cap)) w') :
    Oper.wp P { dst := dst, op := .call { callee := .builtin .append, args := #[x, y], argTypes := #[t, t] }, type := ty, pos := pos, after := af, guard := g } a w K Q := by
  obtain ⟨i, z, ht, hi, hz, hsz, hby, hzc⟩ := slice_info (P := P) (t := t)
  subst hsz; subst hby
  have hsrc := hs2.src (P := P) (tx := t) ht h1
  have hrun := run_append_grow_src w t t ty e i z ht hi hz A n c xs (hs1.firstCells (P := P)) (.slice A' m c') m news hsrc hlt (by unfold maxLen at hml; omega) (growslice_fits hlt hb)
  have hge := grownCap_ge w (n + m) c e
  have hcm := grownCap_le_maxLen w (n + m) c e hml
  have hal := (hM.drew).alloc e ((xs ++ news) ++ (Builtin.zeroCells z.cells (grownCap w (n + m) c e - (n + m))).toList)
  refine wp_value (v := .slice (some ⟨w.heap.size, 0, none⟩) (n + m) (grownCap w (n + m) c e)) (w' := w.drew.alloc (.cells ((xs ++ news) ++ (Builtin.zeroCells z.cells (grownCap w (n + m) c e - (n + m))).toList).toArray e)) ?_
    (h _ _ _ _ hM.size hge hcm ?_ hal)
  · have e2 : ((xs ++ news) ++ (Builtin.zeroCells z.cells (grownCap w (n + m) c e - (n + m))).toList).toArray = (xs ++ news).toArray ++ Builtin.zeroCells z.cells (grownCap w (n + m) c e - (n + m)) := by
      apply Array.ext'; simp
    rw [e2]
    simp [execOp, resolve, invoke, builtin, hx, hy, hrun]
  · have h3 := hT.len
    rw [Array.length_toList, size_zeroCells, hzc]
    simp [h3]

/-- append onto a slice of the call's own -/
theorem arm_append_own {t e size bytes : Nat} {zs : List Value} {x y : Operand} {A' : Option Addr} {n m c' : Nat} {v : Value} {xs news : List Value} [hT : SliceOf P t e size bytes zs] (hO : Own e size v n xs ho) (hM : Mem w0 X (ho ++ hs) w)
    (hx : a.eval x = v) (hy : a.eval y = .slice A' m c') (hs2 : Sl w A' m c' size news) (h1 : ∀ u ∈ news, u.oneCell' = true)
    (hb : (n + m) * bytes ≤ 140737488355328) (hml : n + m ≤ maxLen)
    (h : ∀ v' ho' w', Own e size v' (n + m) (xs ++ news) ho' → Mem w0 X (ho' ++ hs) w' → K (a.put dst v') w') :
    Oper.wp P { dst := dst, op := .call { callee := .builtin .append, args := #[x, y], argTypes := #[t, t] }, type := ty, pos := pos, after := af, guard := g } a w K Q := by
  obtain ⟨A, c, hv, hs1⟩ := hO.sl hM
  by_cases hlt : c < n + m
  · refine arm_append_grow (hM := hM) (hx.trans hv) hy hs1 hs2 h1 hlt hb hml fun b cap tl w' hbz hc1 hc2 htl hM' => ?_
    refine h _ _ _ (Own.row b (n + m) cap (xs ++ news) tl hc1 hc2 (by rw [List.length_append, hO.len, hs2.len, Nat.add_mul]) htl) ?_
    exact hM'.sub (List.Sublist.cons_cons _ (List.sublist_append_right ho hs))
  · obtain ⟨i, z, ht, hi, hz, hsz, hby, hzc⟩ := slice_info (P := P) (t := t)
    subst hsz
    cases hO with
    | nil =>
      have e1 : c = 0 := by cases hv; rfl
      have e2 : m = 0 := by omega
      subst e1; subst e2
      have hn : news = [] := List.eq_nil_of_length_eq_zero (by simpa using hs2.len)
      subst hn
      refine wp_value (v := .slice none 0 0) (w' := w) ?_ (h _ [] _ (by simpa using Own.nil) hM)
      have hsrc := hs2.src (P := P) (tx := t) ht h1
      have hl := hsrc.len
      have hc := hsrc.cells
      have hl' : ∀ w', (Builtin.lenOf (.slice A' 0 c')).run P w' = .ok 0 w' := fun w' => rfl
      simp [execOp, resolve, invoke, builtin, hx, hy, Builtin.append_, run_underlying ht, sizeOf, typeInfo, hi, hl', hc]
    | row gg n cap xs tl hnc hcm hxl htl =>
      have ec : c = cap := by cases hv; rfl
      subst ec
      have hsrc := hs2.src (P := P) (tx := t) ht h1
      have hent : HasE w (gg, e, xs ++ tl) := hM.has _ (by simp)
      have hlen : n * i.size + news.length ≤ (xs ++ tl).length := by
        rw [List.length_append, hxl, htl, hs2.len, ← Nat.add_mul, ← Nat.add_mul]
        exact Nat.mul_le_mul_right _ (by omega)
      have hrun := run_append_room_src w t t ty e i ht hi gg 0 n c (.slice A' m c') m news hsrc (by omega)
        (fun j hj => by rw [Nat.zero_add, hent.cell, List.getElem?_eq_getElem (by omega)]; rfl) (fun j hj => hent.free _)
      rw [Nat.zero_add] at hrun
      have hsp : splice (xs ++ tl) (n * i.size) news = (xs ++ news) ++ tl.drop news.length := by
        unfold splice
        rw [← hxl, List.take_left, List.drop_append]
        rw [List.drop_of_length_le (by omega)]
        congr 2
        simp
      have hM2 := hM.setCells (b := gg) (T := e) (cs := xs ++ tl) (hs' := (gg, e, (xs ++ news) ++ tl.drop news.length) :: hs) (n * i.size) news hlen (by rw [hsp]; exact Upd.head _)
      refine wp_value (v := .slice (some ⟨gg, 0, none⟩) (n + m) c) (w' := w.setCells gg (n * i.size) news) ?_ (h _ [(gg, e, (xs ++ news) ++ tl.drop news.length)] _ ?_ hM2)
      · simp [execOp, resolve, invoke, builtin, hx, hy, hrun]
      · refine Own.row gg (n + m) c (xs ++ news) _ (by omega) hcm (by rw [List.length_append, hxl, hs2.len, Nat.add_mul]) ?_
        rw [List.length_drop, htl, hs2.len, ← Nat.sub_mul]
        congr 1
        omega

theorem fold_splice (off : Nat) : ∀ (vs : List Value) (k : Nat) (cs : Array Value), off + k + vs.length ≤ cs.size →
    (vs.zipIdx k).foldl (fun cs (c, j) => cs.setIfInBounds (off + j) c) cs = (splice cs.toList (off + k) vs).toArray
  | [], k, cs, _ => by simp [splice]
  | v :: vs, k, cs, hl => by
    simp only [List.length_cons] at hl
    simp only [List.zipIdx_cons, List.foldl_cons]
    rw [fold_splice off vs (k + 1) (cs.setIfInBounds (off + k) v) (by simp; omega)]
    congr 1
    rw [Array.toList_setIfInBounds]
    exact splice_cons cs.toList (off + k) v vs (by simp; omega)

theorem fill_seq (size : Nat) : ∀ (vs : List Value) (k : Nat) (cells : Array Value), (∀ v ∈ vs, v.cells.size = size) → cells.size = (k + vs.length) * size →
    Instr.fill (fun i => some (i * size, size)) cells ((vs.zipIdx k).map fun p => (p.2, p.1)) = some (cells.toList.take (k * size) ++ (vs.map (·.cells.toList)).flatten).toArray
  | [], k, cells, _, hl => by
    simp only [List.zipIdx_nil, List.map_nil, Instr.fill, List.flatten_nil, List.append_nil]
    rw [List.take_of_length_le (by simp at hl ⊢; omega)]
  | v :: vs, k, cells, hv, hl => by
    have h1 := hv v (by simp)
    simp only [List.length_cons] at hl
    have hkl : k * size + size ≤ cells.size := by
      rw [hl, ← Nat.succ_mul]; exact Nat.mul_le_mul_right _ (by omega)
    simp only [List.zipIdx_cons, List.map_cons, Instr.fill]
    rw [if_neg (by simp [h1]; omega)]
    have hf := fold_splice (k * size) v.cells.toList 0 cells (by simp [h1]; omega)
    simp only [Nat.add_zero] at hf
    have hz : v.cells.zipIdx.foldl (fun cs (c, j) => cs.setIfInBounds (k * size + j) c) cells = (v.cells.toList.zipIdx 0).foldl (fun cs (c, j) => cs.setIfInBounds (k * size + j) c) cells := by
      rw [← Array.foldl_toList]
      simp
    rw [hz, hf]
    have hsl : (splice cells.toList (k * size) v.cells.toList).length = cells.size := by
      rw [splice_length (by simp [h1]; omega)]; simp
    rw [fill_seq size vs (k + 1) _ (fun u hu => hv u (by simp [hu])) (by simp only [List.size_toArray]; rw [hsl, hl]; congr 1; omega)]
    congr 2
    simp only [splice, List.map_cons, List.flatten_cons]
    have h2 : (k + 1) * size = (cells.toList.take (k * size) ++ v.cells.toList).length := by
      simp [h1, Nat.succ_mul]; omega
    rw [h2, List.take_left, List.append_assoc]

/-- a slice out of its elements -/
theorem arm_buildSlice {t e size bytes len : Nat} {zs xs : List Value} {parts : Array (Nat × Operand)} [hT : SliceOf P t e size bytes zs] (hM : Mem w0 X hs w)
    (hidx : parts.toList.map (·.1) = List.range len) (hc : (parts.toList.map fun p => (a.eval p.2).cells.toList).flatten = xs) (hsz : ∀ p ∈ parts.toList, (a.eval p.2).cells.size = size) (hle : len * size ≤ 16777216)
    (h : ∀ b w', w0.heap.size ≤ b → Mem w0 X ((b, e, xs) :: hs) w' → K (a.put dst (.slice (some ⟨b, 0, none⟩) len len)) w') :
    Oper.wp P { dst := dst, op := .buildSlice t len parts, type := ty, pos := pos, after := af, guard := g } a w K Q := by
  obtain ⟨i, z, ht, hi, hz, hsz', hby, hzc⟩ := slice_info (P := P) (t := t)
  have hlen : parts.toList.length = len := by have := congrArg List.length hidx; simpa using this
  have hparts : (parts.map fun p => (p.1, a.eval p.2)).toList = ((parts.toList.map fun p => a.eval p.2).zipIdx 0).map fun p => (p.2, p.1) := by
    apply List.ext_getElem?
    intro j
    simp only [Array.toList_map, List.getElem?_map, List.getElem?_zipIdx, Nat.zero_add]
    cases hj : parts.toList[j]? with
    | none => simp [hj]
    | some p =>
      have h1 : (parts.toList.map (·.1))[j]? = some p.1 := by rw [List.getElem?_map, hj]; rfl
      rw [hidx, List.getElem?_range (by have := (List.getElem?_eq_some_iff.1 hj).1; omega)] at h1
      simp only [Option.some.injEq] at h1
      simp [hj, h1]
  have hfill := fill_seq size (parts.toList.map fun p => a.eval p.2) 0 ((Array.range (len * size)).map ((if len * size = 0 then #[] else z.cells)[· % (if len * size = 0 then #[] else z.cells).size]!))
    (fun v hv => by obtain ⟨p, hp, rfl⟩ := List.mem_map.1 hv; exact hsz p hp) (by simp [hlen])
  simp only [Nat.zero_mul, List.take_zero, List.nil_append, List.map_map] at hfill
  have hxs : (List.map ((fun x => x.cells.toList) ∘ fun p => a.eval p.2) parts.toList).flatten = xs := hc
  rw [hxs, ← hparts] at hfill
  refine wp_value (v := .slice (some ⟨w.heap.size, 0, none⟩) len len) (w' := w.alloc (.cells xs.toArray e)) ?_ (h _ _ hM.size (hM.alloc e xs))
  have hs1 : (sizeOf e).run P w = .ok size w := run_sizeOf (by simp [hi, hsz']) w
  have hzv : (zeroValue e).run P w = .ok z w := by simp [zeroValue, typeInfo, hi, hz]
  simp only [execOp, Instr.buildSlice, Sem.run_bind, run_underlying ht, Result.andThen_ok, hs1]
  rw [if_neg (by omega)]
  simp only [Sem.run_pure]
  by_cases h0 : len * size = 0
  · rw [if_pos h0] at hfill
    rw [if_pos h0]
    simp only [Sem.run_bind, Sem.run_pure, Result.andThen_ok]
    rw [hfill]
    simp [newRow, newObj]
    rfl
  · rw [if_neg h0] at hfill
    rw [if_neg h0]
    simp only [Sem.run_bind, Sem.run_pure, Result.andThen_ok, hzv]
    rw [hfill]
    simp [newRow, newObj]
    rfl

/-- copy, of elements of one cell each -/
theorem arm_copy {dT sT e bytes : Nat} {zs : List Value} {x y : Operand} {b o n c m c' : Nat} {A' : Option Addr} {B : TypeId} {cs cs' xs news : List Value} [hT : SliceOf P dT e 1 bytes zs] (hM : Mem w0 X hs w)
    (hx : a.eval x = .slice (some ⟨b, o, none⟩) n c) (hy : a.eval y = .slice A' m c') (hs2 : Sl w A' m c' 1 xs) (h1 : ∀ u ∈ xs, u.oneCell' = true) (hn : xs.take n = news)
    (hu : Upd b B cs cs' hs hs') (hl : o + news.length ≤ cs.length) (hsp : splice cs o news = cs')
    (h : ∀ w', Mem w0 X hs' w' → K (a.put dst (goInt news.length)) w') :
    Oper.wp P { dst := dst, op := .call { callee := .builtin .copy, args := #[x, y], argTypes := #[dT, sT] }, type := ty, pos := pos, after := af, guard := g } a w K Q := by
  subst hsp
  have hent := hM.has _ hu.mem
  have hsz : (P.info? e).map (·.size) = some 1 := by
    have := hT.info
    cases hq : P.info? e with
    | none => simp [hq] at this
    | some i => simp [hq] at this ⊢; exact this.1
  have hxm : xs.length = m := by simpa using hs2.len
  have hnl : news.length = Nat.min m n := by rw [← hn, List.length_take, hxm]; exact Nat.min_comm _ _
  have hM2 := hM.setCells o news hl hu
  refine wp_value (v := goInt news.length) (w' := w.setCells b o news) ?_ (h _ hM2)
  by_cases h0 : Nat.min m n = 0
  · have hnn : news = [] := List.eq_nil_of_length_eq_zero (by omega)
    subst hnn
    have := run_copy_none (P := P) w dT sT ty e (some ⟨b, o, none⟩) A' n c m c' hT.elem hsz h0
    simp [execOp, resolve, invoke, builtin, hx, hy, this, World.setCells]
  · have hm : 0 < m := by
      rcases Nat.eq_zero_or_pos m with h | h
      · subst h; simp at h0
      · exact h
    obtain ⟨sb, so, hA, hr⟩ := hs2.at_ hm
    subst hA
    have hcell : ∀ j, j < news.length → (w.cell? ⟨b, o + j, none⟩).isSome = true := fun j hj => by
      rw [hent.cell, List.getElem?_eq_getElem (by omega)]; rfl
    have := run_copy_cells (P := P) w dT sT ty e b o n c ⟨sb, so, none⟩ m c' news hT.elem hsz hnl (fun j v hj => by
      rw [Addr.add_mid]
      refine hr j v ?_
      rw [← hn, List.getElem?_take] at hj
      split at hj
      · exact hj
      · cases hj) hcell (fun j hj => hent.free _) (fun u hu => h1 u (by rw [← hn] at hu; exact List.mem_of_mem_take hu))
    simp [execOp, resolve, invoke, builtin, hx, hy, this]

/-- append of n zeros onto nil -/
theorem arm_append_zeros {t tn e size bytes n : Nat} {zs : List Value} {x y : Operand} {kn : IntKind} [hT : SliceOf P t e size bytes zs] [hN : IntT P tn kn] (hM : Mem w0 X hs w)
    (hx : a.eval x = .slice none 0 0) (hy : a.eval y = .int .i64 (n : Int)) (h0 : 0 < n) (hs0 : 0 < size) (hb : n * bytes ≤ 140737488355328) (hml : n ≤ maxLen)
    (h : ∀ b cap tl w', w0.heap.size ≤ b → n ≤ cap → cap ≤ maxLen → tl.length = cap * size → Mem w0 X ((b, e, tl) :: hs) w' → K (a.put dst (.slice (some ⟨b, 0, none⟩) n cap)) w') :
    Oper.wp P { dst := dst, op := .call { callee := .builtin .append, args := #[x, y], argTypes := #[t, tn] }, type := ty, pos := pos, after := af, guard := g } a w K Q := by
  obtain ⟨i, z, ht, hi, hz, hsz, hby, hzc⟩ := slice_info (P := P) (t := t)
  subst hsz; subst hby
  have hrun := Lib.run_append_nil_zeros (P := P) w t tn ty e i z .i64 kn ht hN.kind hi hz n h0 hs0 (by unfold maxLen at hml; omega) (by omega)
  have hge := grownCap_ge w n 0 e
  have hcm := grownCap_le_maxLen w n 0 e hml
  have hal := (hM.drew).alloc e (Builtin.zeroCells z.cells n ++ Builtin.zeroCells z.cells (grownCap w n 0 e - n)).toList
  have h3 := hT.len
  refine wp_value (v := .slice (some ⟨w.heap.size, 0, none⟩) n (grownCap w n 0 e)) (w' := w.drew.alloc (.cells (Builtin.zeroCells z.cells n ++ Builtin.zeroCells z.cells (grownCap w n 0 e - n)) e)) ?_
    (h _ _ _ _ hM.size hge hcm ?_ hal)
  · simp [execOp, resolve, invoke, builtin, hx, hy, hrun]
  · rw [Array.length_toList, Array.size_append, size_zeroCells, size_zeroCells, hzc]
    simp only [List.size_toArray, h3]
    rw [← Nat.add_mul]
    congr 1
    omega

/-- a call that returns a slice of its own -/
abbrev RetO (w : World) (e : TypeId) (size n : Nat) (xs : List Value) : Ending → World → Prop := fun en w' => ∃ v ho, en = .returned v ∧ Own e size v n xs ho ∧ Mem w [] ho w'
theorem arm_callO {cv : Operand} {xs : Array Operand} {ats : Array TypeId} {f : FuncId} {fi ca vs : Array Value} {e : TypeId} {size n : Nat} {ys : List Value} [Entr P f] (hM : Mem w0 X hs w) (hC : Calls P f vs w (RetO w e size n ys)) (hf : a.eval cv = .func (.func f) fi ca) (hargs : vs = fi ++ xs.map a.eval ++ ca)
    (h : ∀ v ho w', Own e size v n ys ho → Mem w0 X (ho ++ hs) w' → K (a.put dst v) w') :
    Oper.wp P { dst := dst, op := .call { callee := .value cv, args := xs, argTypes := ats }, type := ty, pos := pos, after := af, guard := g } a w K Q := by
  refine arm_callG hf hargs hC fun en w' ⟨v, ho, he, hO, hM1⟩ => ?_
  subst he
  exact h v ho w' hO (hM.call hM1)

/-- a slice against nil -/
theorem rx_eqNil {T T' e size bytes n c : Nat} {zs : List Value} {x y : Operand} {A : Option Addr} [hT : SliceOf P T e size bytes zs] (hx : a.eval x = .slice A n c) (hy : a.eval y = .slice none 0 0) (w : World) :
    (execOp a.eval { dst := dst, op := .binOp .eql T x y T', type := ty, pos := pos, after := af, guard := g }).run P w = .ok (.value (.bool A.isNone)) w := by
  have hd : ∀ d, (Op.equalIn (d + 1) T (.slice A n c) (.slice none 0 0)).run P w = .ok A.isNone w := fun d => by
    cases A <;> simp [Op.equalIn, run_underlying hT.elem]
  have h : (Op.equal T (.slice A n c) (.slice none 0 0)).run P w = .ok A.isNone w := hd 9999
  have h2 : (binOp .eql T (.slice A n c) (.slice none 0 0)).run P w = .ok (.bool A.isNone) w := by
    simp only [binOp, Sem.run_bind, h, Result.andThen_ok]
    rfl
  have h3 : (eqGuard .eql T x y (.slice A n c) (.slice none 0 0)).run P w = .ok () w := rfl
  simp only [execOp, hx, hy, Sem.run_bind, h2, h3, Result.andThen_ok]
  rfl
theorem arm_eqNil {T T' e size bytes n c : Nat} {zs : List Value} {x y : Operand} {A : Option Addr} [hT : SliceOf P T e size bytes zs] (hx : a.eval x = .slice A n c) (hy : a.eval y = .slice none 0 0)
    (h : K (a.put dst (.bool A.isNone)) w) : Oper.wp P { dst := dst, op := .binOp .eql T x y T', type := ty, pos := pos, after := af, guard := g } a w K Q := wp_value (rx_eqNil hx hy w) h

theorem arm_build0 {t e size bytes : Nat} {zs : List Value} [hT : SliceOf P t e size bytes zs] (hM : Mem w0 X hs w)
    (h : ∀ b w', w0.heap.size ≤ b → Mem w0 X ((b, e, []) :: hs) w' → K (a.put dst (.slice (some ⟨b, 0, none⟩) 0 0)) w') :
    Oper.wp P { dst := dst, op := .buildSlice t 0 #[], type := ty, pos := pos, after := af, guard := g } a w K Q :=
  arm_buildSlice (len := 0) (parts := #[]) hM rfl rfl (by simp) (by omega) h

/-- make, of elements of one cell each -/
theorem arm_makeSlice1 {t e bytes l c : Nat} {z0 : Value} {x y : Operand} {kl kc : IntKind} [hT : SliceOf P t e 1 bytes [z0]] (hM : Mem w0 X hs w)
    {L C : Int} (hx : a.eval x = .int kl L) (hy : a.eval y = .int kc C) (hL : L = (l : Int)) (hC : C = (c : Int)) (hlc : l ≤ c) (hb : bytes * c ≤ 281474976710656) (hml : c ≤ maxLen)
    (h : ∀ b w', w0.heap.size ≤ b → Mem w0 X ((b, e, List.replicate c z0) :: hs) w' → K (a.put dst (.slice (some ⟨b, 0, none⟩) l c)) w') :
    Oper.wp P { dst := dst, op := .makeSlice t x y, type := ty, pos := pos, after := af, guard := g } a w K Q := by
  subst hL; subst hC
  obtain ⟨i, z, ht, hi, hz, hsz, hby, hzc⟩ := slice_info (P := P) (t := t)
  subst hby
  have hrun := run_make (P := P) w t e i z ht hi hz kl kc l c (by omega) (by omega) (by rw [← Int.natCast_mul]; omega) (by unfold maxLen at hml; omega)
  have hcells : madeCells z.cells (c * i.size) = (List.replicate c z0).toArray := by
    rw [hsz, Nat.mul_one, hzc]
    apply Array.ext'
    simp [madeCells]
    apply List.ext_getElem
    · simp
    · intro j h1 h2; simp [Nat.mod_one]
  refine wp_value (v := .slice (some ⟨w.heap.size, 0, none⟩) l c) (w' := w.alloc (.cells (List.replicate c z0).toArray e)) ?_ (h _ _ hM.size (hM.alloc e _))
  simp only [Int.toNat_natCast] at hrun
  rw [hcells] at hrun
  simp [execOp, hx, hy, hrun]

/-- a call that writes one known block -/
theorem arm_callX {cv : Operand} {xs : Array Operand} {ats : Array TypeId} {f : FuncId} {fi ca vs : Array Value} {v : Value} {b : Nat} {B : TypeId} {cs cs' : List Value} [Entr P f] (hM : Mem w0 X hs w) (hC : Calls P f vs w fun e w' => e = .returned v ∧ Mem w [b] [(b, B, cs')] w') (hf : a.eval cv = .func (.func f) fi ca) (hargs : vs = fi ++ xs.map a.eval ++ ca)
    (hu : Upd b B cs cs' hs hs') (h : ∀ w', Mem w0 X hs' w' → K (a.put dst v) w') :
    Oper.wp P { dst := dst, op := .call { callee := .value cv, args := xs, argTypes := ats }, type := ty, pos := pos, after := af, guard := g } a w K Q := by
  refine arm_callG hf hargs hC fun en w' ⟨he, hB⟩ => ?_
  subst he
  exact h w' (by simpa using hM.call1 (hs1 := []) hB hu (by simp))

/-- []byte(s) -/
theorem arm_strBytes {src dstT e bytes : Nat} {zs : List Value} {x : Operand} {s : ByteArray} [hS : StrT P src] [hT : SliceOf P dstT e 1 bytes zs] [hE : IntT P e .u8] (hM : Mem w0 X hs w)
    (hx : a.eval x = .string s) (hsmall : s.size ≤ maxLen)
    (h : ∀ A c w', SlB w' A s.size c s.data.toList → Mem w0 X hs w' → K (a.put dst (.slice A s.size c)) w') :
    Oper.wp P { dst := dst, op := .convert src dstT x, type := ty, pos := pos, after := af, guard := g } a w K Q := by
  have hrun := run_bytes_of_string (P := P) w src dstT e s hS.str hT.elem hE.kind
  have hM2 := (hM.drew).allocO (.cells (bytesRow s (grownCap w s.size 0 e)) e ((bytesRow s (grownCap w s.size 0 e)).size, (bytesRow s (grownCap w s.size 0 e)).size + 1))
  have hge := grownCap_ge w s.size 0 e
  by_cases hbig : grownCap w s.size 0 e ≤ maxLen
  · refine wp_value (v := .slice (some ⟨w.heap.size, 0, none⟩) s.size (grownCap w s.size 0 e)) ?_ (h _ _ _ ⟨by simp, hge, hbig, fun _ => ⟨_, _, rfl, fun j v hv => ?_⟩⟩ hM2)
    · simp [execOp, hx, hrun]
    · have hh : (w.drew.alloc (.cells (bytesRow s (grownCap w s.size 0 e)) e ((bytesRow s (grownCap w s.size 0 e)).size, (bytesRow s (grownCap w s.size 0 e)).size + 1))).heap[w.heap.size]? = some (.cells (bytesRow s (grownCap w s.size 0 e)) e ((bytesRow s (grownCap w s.size 0 e)).size, (bytesRow s (grownCap w s.size 0 e)).size + 1)) := heap_alloc_new w.drew _
      rw [cell_of_row _ _ _ _ _ _ hh, Nat.zero_add]
      simp only [bytesV, List.getElem?_map] at hv
      simp only [bytesRow]
      cases hj : s.data.toList[j]? with
      | none => simp [hj] at hv
      | some c =>
        simp [hj] at hv
        have hlt : j < s.data.size := by have := (List.getElem?_eq_some_iff.1 hj).1; simpa using this
        have hc : s.data[j] = c := by
          have := (List.getElem?_eq_some_iff.1 hj).2
          simpa using this
        rw [Array.getElem?_append_left (by simpa using hlt)]
        have h9 : s.data[j]? = some c := by rw [Array.getElem?_eq_getElem hlt, hc]
        rw [Array.getElem?_map, h9]
        exact congrArg some hv
  · exact absurd (grownCap_le_maxLen w s.size 0 e (hsmall)) hbig

/-- a call that is handed a slice of the caller's own and gives one back -/
abbrev RetT (w : World) (ho : List Ent) (e : TypeId) (size n : Nat) (xs : List Value) : Ending → World → Prop := fun en w' => ∃ v ho', en = .returned v ∧ Own e size v n xs ho' ∧ Mem w (ho.map (·.1)) ho' w'
theorem arm_callT {cv : Operand} {xs : Array Operand} {ats : Array TypeId} {f : FuncId} {fi ca vs : Array Value} {e : TypeId} {size n : Nat} {ys : List Value} [Entr P f] (hM : Mem w0 X (ho ++ hs) w) (hC : Calls P f vs w (RetT w ho e size n ys)) (hf : a.eval cv = .func (.func f) fi ca) (hargs : vs = fi ++ xs.map a.eval ++ ca)
    (h : ∀ v ho' w', Own e size v n ys ho' → Mem w0 X (ho' ++ hs) w' → K (a.put dst v) w') :
    Oper.wp P { dst := dst, op := .call { callee := .value cv, args := xs, argTypes := ats }, type := ty, pos := pos, after := af, guard := g } a w K Q := by
  refine arm_callG hf hargs hC fun en w' ⟨v, ho', he, hO, hM1⟩ => ?_
  subst he
  exact h v ho' w' hO (hM.callT hM1)

end arms

section
open Go Go.RowKit
section
variable {P : Program} {Q : Exit → Act → World → Prop} {K : Act → World → Prop} {a : Act} {w0 w : World} {X : List Nat} {hs : List Ent} {dst : Option Tmp} {ty : TypeId} {pos : String} {af : Array Edge} {g : Option (Nat × Bool)}
theorem arm_callF {cv : Operand} {xs : Array Operand} {ats : Array TypeId} {f : FuncId} {fi ca vs : Array Value} {v : Value} [Entr P f] (hM : Mem w0 X hs w) (hf : a.eval cv = .func (.func f) fi ca) (hargs : vs = fi ++ xs.map a.eval ++ ca) (hC : Calls P f vs w fun e w' => e = .returned v ∧ Below w.heap.size w w')
    (h : ∀ w', Mem w0 X hs w' → K (a.put dst v) w') :
    Oper.wp P { dst := dst, op := .call { callee := .value cv, args := xs, argTypes := ats }, type := ty, pos := pos, after := af, guard := g } a w K Q := arm_call hM hC hf hargs h
theorem arm_callGF {cv : Operand} {xs : Array Operand} {ats : Array TypeId} {f : FuncId} {fi ca vs : Array Value} {R : Ending → World → Prop} [hE : Entr P f] (hf : a.eval cv = .func (.func f) fi ca) (hargs : vs = fi ++ xs.map a.eval ++ ca) (hC : Calls P f vs w R)
    (h : ∀ e w', R e w' → match e with
      | .returned v => K (a.put dst v) w'
      | .panicked c => Q (.panic c) a w'
      | .outgrown => LetsOut Q) :
    Oper.wp P { dst := dst, op := .call { callee := .value cv, args := xs, argTypes := ats }, type := ty, pos := pos, after := af, guard := g } a w K Q := arm_callG hf hargs hC h
end
end
end Go.Proofs.YtelnilllleempaaDoor
