/- Words on memory that the walks of this claim share: a block that is known whole, and what becomes of it. -/
import Derived.Test.YtfljebipoajfpaaDoorChecked
import Derived.WalkKit
import Derived.WalkLawsBesides
import Derived.Handy
import Derived.BigQuiet
import Derived.Lib.Hide
import Derived.Deep.Draws
import Derived.Deep.QuietTactic
import Derived.Deep.MidRow
import Derived.Lib.QuietBelow
import Derived.StillTailTactics
import Derived.Deep.DrawnRows
namespace Go.Proofs.YtfljebipoajfpaaDoor
open Go.RowKit

/-- Block g holds just these cells, of this element type, none of them frozen. -/
def IsB (w : World) (g : Nat) (t : TypeId) (cs : Array Value) : Prop := w.heap[g]? = some (.cells cs t (0, 0))

section
variable {w w1 : World} {g : Nat} {t : TypeId} {cs : Array Value}
theorem IsB.lt (h : IsB w g t cs) : g < w.heap.size := by
  unfold IsB at h
  exact (Array.getElem?_eq_some_iff.1 h).1
theorem IsB.cell (h : IsB w g t cs) : ∀ o, w.cell? ⟨g, o, none⟩ = cs[o]? := by
  intro o; unfold IsB at h; simp [World.cell?, h]
theorem IsB.free (h : IsB w g t cs) : ∀ o, w.frozen? ⟨g, o, none⟩ = false := by
  intro o; unfold IsB at h; simp [World.frozen?, h]
theorem IsB.of_new {g : Nat} (w : World) (t : TypeId) (cs : Array Value) (hg : g = w.heap.size) : IsB (w.alloc (.cells cs t)) g t cs := by
  subst hg; exact (MapKept.heap_alloc w _).1
theorem IsB.alloc (h : IsB w g t cs) (o : Obj) : IsB (w.alloc o) g t cs := (Below.heap_alloc w o g h.lt).trans h
theorem IsB.drew (h : IsB w g t cs) : IsB w.drew g t cs := h
theorem IsB.drewN (h : IsB w g t cs) (n : Nat) : IsB (w.drewN n) g t cs := h
theorem IsB.below {B : Nat} (h : IsB w g t cs) (hb : Below B w w1) (hg : g < B) : IsB w1 g t cs := (hb.block g hg).trans h
theorem IsB.belowS (h : IsB w g t cs) (hb : Below w.heap.size w w1) : IsB w1 g t cs := (hb.block g h.lt).trans h
theorem IsB.far (h : IsB w g t cs) {p : Addr} (hp : g ≠ p.block) (u : Value) : IsB (w.setCell p u) g t cs := (Below.heap_setCell w p u g hp).trans h
theorem IsB.put (h : IsB w g t cs) (o : Nat) (u : Value) : IsB (w.setCell ⟨g, o, none⟩ u) g t (cs.setIfInBounds o u) := by
  unfold IsB at h ⊢
  simp [World.setCell, Array.getElem?_modify, h]
theorem IsB.ne {g' : Nat} {t' : TypeId} {cs' : Array Value} (h : IsB w g t cs) (h' : IsB w g' t' cs') (hn : t ≠ t') : g ≠ g' := by
  rintro rfl
  unfold IsB at h h'
  rw [h] at h'
  simp only [Option.some.injEq, Obj.cells.injEq] at h'
  exact hn h'.2.1
end

/-- Only block g has turned: it is there still; the streams are as they were; no block is new. -/
structure Only (g : Nat) (w w' : World) : Prop where
  os : w'.os = w.os
  tape : w'.tape = w.tape
  output : w'.output = w.output
  size : w'.heap.size = w.heap.size
  block : ∀ k, k ≠ g → w'.heap[k]? = w.heap[k]?
theorem IsB.only {w w' : World} {g g' : Nat} {t : TypeId} {cs : Array Value} (h : IsB w g t cs) (ho : Only g' w w') (hn : g ≠ g') : IsB w' g t cs := (ho.block g hn).trans h
theorem below_only {B g : Nat} {a w w' : World} (h : Below B a w) (ho : Only g w w') (hg : B ≤ g) : Below B a w' :=
  ⟨ho.os.trans h.os, ho.tape.trans h.tape, ho.output.trans h.output, by rw [ho.size]; exact h.size, fun k hk => (ho.block k (by omega)).trans (h.block k hk)⟩
theorem Only.setCell (w : World) (g o : Nat) (v : Value) : Only g w (w.setCell ⟨g, o, none⟩ v) :=
  ⟨rfl, rfl, rfl, by simp [World.setCell], fun k hk => Below.heap_setCell w ⟨g, o, none⟩ v k hk⟩
theorem Only.trans {g : Nat} {a b c : World} (h : Only g a b) (k : Only g b c) : Only g a c :=
  ⟨k.os.trans h.os, k.tape.trans h.tape, k.output.trans h.output, k.size.trans h.size, fun i hi => (k.block i hi).trans (h.block i hi)⟩
theorem Only.setCells (g : Nat) : ∀ (vs : List Value) (o : Nat) (w : World), Only g w (w.setCells g o vs)
  | [], _, _ => ⟨rfl, rfl, rfl, rfl, fun _ _ => rfl⟩
  | v :: r, o, w => (Only.setCell w g o v).trans (Only.setCells g r (o + 1) _)
theorem setCells_isB (g : Nat) (t : TypeId) : ∀ (vs : List Value) (o : Nat) (w : World) (cs : Array Value), IsB w g t cs → ∃ cs', IsB (w.setCells g o vs) g t cs' ∧ cs'.size = cs.size ∧ ∀ j, cs'[j]? = if o ≤ j ∧ j < o + vs.length ∧ j < cs.size then vs[j - o]? else cs[j]?
  | [], o, w, cs, h => ⟨cs, h, rfl, fun j => by rw [if_neg (by simp; omega)]⟩
  | v :: r, o, w, cs, h => by
    obtain ⟨cs', h', hs, hj⟩ := setCells_isB g t r (o + 1) _ _ (h.put o v)
    refine ⟨cs', h', by simpa using hs, fun j => ?_⟩
    rw [hj j]
    simp only [Array.size_setIfInBounds, List.length_cons, Array.getElem?_setIfInBounds]
    by_cases h1 : j < cs.size
    · by_cases h2 : o + 1 ≤ j ∧ j < o + 1 + r.length
      · rw [if_pos ⟨h2.1, h2.2, h1⟩, if_pos ⟨by omega, by omega, h1⟩, show j - o = (j - (o + 1)) + 1 by omega, List.getElem?_cons_succ]
      · rw [if_neg (fun hh => h2 ⟨hh.1, hh.2.1⟩)]
        by_cases h3 : o = j
        · subst h3
          rw [if_pos rfl, if_pos h1, if_pos ⟨by omega, by omega, h1⟩]
          simp
        · rw [if_neg h3, if_neg (fun hh => by omega)]
    · have e1 : cs[j]? = none := Array.getElem?_eq_none (by omega)
      by_cases h3 : o = j
      · subst h3; simp [h1]
      · simp [h1, e1, h3]
/-- A store of a whole struct (or array) over a block of just its size: the block is just those cells; nothing else turns. The world behind it is a letter. -/
theorem wpList_store_isB {P : Program} {ops : Array Oper} {rest : List Oper} {op : Oper} {a : Act} {w : World} {Q : Exit → Act → World → Prop} (hgd : op.guard = none) (ty : TypeId) (x y : Operand) (ho : op.op = .store ty x y)
    (g : Nat) (cells : Array Value) (hx : a.eval x = .pointer (some ⟨g, 0, none⟩)) (hy : a.eval y = .agg cells) {t : TypeId} {cs : Array Value} (hB : IsB w g t cs) (hsz : cs.size = cells.size)
    (hi : (P.info? ty).map (·.size) = some cells.size) (h1 : cells.all (·.oneCell') = true)
    (h : ∀ w', IsB w' g t cells → Only g w w' → wpList P ops Q rest (a.put op.dst undef) w') : wpList P ops Q (op :: rest) a w := by
  refine wpList_store_mid hgd ty x y ho g 0 cells hx hy (fun j hj => ?_) hi h1 (h _ ?_ (Only.setCells g _ _ _))
  · rw [Nat.zero_add, hB.cell j, hB.free j]
    exact ⟨by rw [Array.getElem?_eq_getElem (by omega)]; rfl, rfl⟩
  · obtain ⟨cs', h', hs, hj⟩ := setCells_isB g t cells.toList 0 w cs hB
    have : cs' = cells := by
      apply Array.ext_getElem?
      intro j
      rw [hj j]
      by_cases hlt : j < cs.size
      · rw [if_pos ⟨by omega, by simpa using (show j < cells.size by omega), hlt⟩]; simp
      · rw [if_neg (fun hh => hlt hh.2.2), Array.getElem?_eq_none (by omega), Array.getElem?_eq_none (by omega)]
    subst this; exact h'
/-- A part of a block is read whole (a struct in a struct; a whole block too). -/
theorem wpList_load_sub {P : Program} {ops : Array Oper} {rest : List Oper} {op : Oper} {a : Act} {w : World} {Q : Exit → Act → World → Prop} (hw : Region.wanted op (yielded ops a.tmps) = true) (ty : TypeId) (x : Operand) (ho : op.op = .load ty x)
    (g o : Nat) (hx : a.eval x = .pointer (some ⟨g, o, none⟩)) {t : TypeId} {cs : Array Value} (hB : IsB w g t cs) (sub : Array Value) (hs : (cs.toList.drop o).take sub.size = sub.toList) (d : TypeDesc)
    (hu : P.underlying ty = some d) (hd : d.isRow = true) (hi : (P.info? ty).map (·.size) = some sub.size)
    (h : wpList P ops Q rest (a.put op.dst (.agg sub)) w) : wpList P ops Q (op :: rest) a w := by
  refine BigFrame.wpList_want hw fun _ hK => wp_load_mid ty x ho g o hx sub.toList d (fun j v hv => ?_) hu hd (by simpa using hi) (hK _ _ (by simpa using h))
  rw [hB.cell]
  rw [← hs, List.getElem?_take] at hv
  split at hv
  · rw [List.getElem?_drop] at hv; simpa using hv
  · simp at hv
/-- The same in a region that draws its order, whose worlds all hold the block. -/
theorem wpQuiet_load_sub {P : Program} {ops : Array Oper} {C : World → Prop} {Q : Act → Prop} {rest : List Oper} {op : Oper} {a : Act} (hw : Region.wanted op (yielded ops a.tmps) = true) (ty : TypeId) (x : Operand) (ho : op.op = .load ty x)
    (g o : Nat) (hx : a.eval x = .pointer (some ⟨g, o, none⟩)) {t : TypeId} {cs : Array Value} (hB : ∀ w, C w → IsB w g t cs) (sub : Array Value) (hs : (cs.toList.drop o).take sub.size = sub.toList) (d : TypeDesc)
    (hu : P.underlying ty = some d) (hd : d.isRow = true) (hi : (P.info? ty).map (·.size) = some sub.size)
    (h : wpQuiet P ops C Q rest (a.put op.dst (.agg sub))) : wpQuiet P ops C Q (op :: rest) a := by
  refine BigFrame.wpQuiet_want hw fun K hK => ⟨.agg sub, fun w hC => ?_, hK _ h⟩
  have hc : w.rangeAt g o sub.toList := fun j v hv => by
    rw [(hB w hC).cell]
    rw [← hs, List.getElem?_take] at hv
    split at hv
    · rw [List.getElem?_drop] at hv; simpa using hv
    · simp at hv
  have hr := run_loadAt_mid (P := P) w g o ty sub.toList d hc hu hd (by simpa using hi)
  unfold Oper.quietAt execOp
  simp only [ho, hx, Sem.run_bind, hr, Result.andThen_ok, Sem.run_pure, Oper.quietUpon, Array.toArray_toList, and_self]
/-- The same at the head of a region that draws its order, whose tail is forced. -/
theorem wpStill_load_sub {P : Program} {ops : Array Oper} {w : World} {Q : Act → Prop} {rest : List Oper} {op : Oper} {a : Act} (hw : Region.wanted op (yielded ops a.tmps) = true) (ty : TypeId) (x : Operand) (ho : op.op = .load ty x)
    (g o : Nat) (hx : a.eval x = .pointer (some ⟨g, o, none⟩)) {t : TypeId} {cs : Array Value} (hB : IsB w g t cs) (sub : Array Value) (hs : (cs.toList.drop o).take sub.size = sub.toList) (d : TypeDesc)
    (hu : P.underlying ty = some d) (hd : d.isRow = true) (hi : (P.info? ty).map (·.size) = some sub.size)
    (h : wpStill P ops w Q rest (a.put op.dst (.agg sub))) : wpStill P ops w Q (op :: rest) a := by
  have hc : w.rangeAt g o sub.toList := fun j v hv => by
    rw [hB.cell]
    rw [← hs, List.getElem?_take] at hv
    split at hv
    · rw [List.getElem?_drop] at hv; simpa using hv
    · simp at hv
  have hr := run_loadAt_mid (P := P) w g o ty sub.toList d hc hu hd (by simpa using hi)
  refine wpStill_step fun K hK => ?_
  rw [if_pos hw]
  unfold Oper.still execOp
  simp only [ho, hx, Sem.run_bind, hr, Result.andThen_ok, Sem.run_pure, Oper.stillUpon, Array.toArray_toList, true_and]
  exact hK _ h
/-- A part of a block is written whole. -/
theorem wpList_store_sub {P : Program} {ops : Array Oper} {rest : List Oper} {op : Oper} {a : Act} {w : World} {Q : Exit → Act → World → Prop} (hw : Region.wanted op (yielded ops a.tmps) = true) (ty : TypeId) (x y : Operand) (ho : op.op = .store ty x y)
    (g o : Nat) (cells : Array Value) (hx : a.eval x = .pointer (some ⟨g, o, none⟩)) (hy : a.eval y = .agg cells) {t : TypeId} {cs : Array Value} (hB : IsB w g t cs) (cs' : Array Value)
    (hcs : cs.toList.take o ++ cells.toList ++ cs.toList.drop (o + cells.size) = cs'.toList) (hle : o + cells.size ≤ cs.size)
    (hi : (P.info? ty).map (·.size) = some cells.size) (h1 : cells.all (·.oneCell') = true)
    (h : ∀ w', IsB w' g t cs' → Only g w w' → wpList P ops Q rest (a.put op.dst undef) w') : wpList P ops Q (op :: rest) a w := by
  refine BigFrame.wpList_want hw fun _ hK => wp_store_mid ty x y ho g o cells hx hy (fun j hj => ?_) hi h1 (hK _ _ (h _ ?_ (Only.setCells g _ _ _)))
  · rw [hB.cell, hB.free]
    exact ⟨by rw [Array.getElem?_eq_getElem (by omega)]; rfl, rfl⟩
  · obtain ⟨cs2, h', hs, hj⟩ := setCells_isB g t cells.toList o w cs hB
    have : cs2 = cs' := by
      apply Array.ext_getElem?
      intro j
      rw [hj j, ← Array.getElem?_toList (xs := cs'), ← hcs]
      simp only [Array.length_toList]
      by_cases h1 : j < o
      · rw [if_neg (fun hh => by omega), List.append_assoc, List.getElem?_append_left (by simp; omega), List.getElem?_take, if_pos h1]; simp
      · by_cases h2 : j < o + cells.size
        · rw [if_pos ⟨by omega, h2, by omega⟩, List.getElem?_append_left (by simp; omega), List.getElem?_append_right (by simp; omega)]
          simp only [List.length_take, Array.length_toList, show min o cs.size = o by omega]
        · rw [if_neg (fun hh => h2 hh.2.1), List.getElem?_append_right (by simp; omega), List.getElem?_drop]
          simp only [List.length_append, List.length_take, Array.length_toList, show min o cs.size = o by omega]
          rw [show o + cells.size + (j - (o + cells.size)) = j by omega]; simp
    subst this; exact h'

/-- A block that is known whole, as a value: what a load of a struct is run by ('attribute [local go_sem ↓] ..' of its instances). -/
def rowOf (w : World) (g : Nat) : Option (Array Value) := match w.heap[g]? with
  | some (.cells cs _ (0, 0)) => some cs
  | _ => none
theorem IsB.row {w : World} {g : Nat} {t : TypeId} {cs : Array Value} (h : IsB w g t cs) : rowOf w g = some cs := by
  unfold IsB at h; simp [rowOf, h]
@[go_sem] theorem rowOf_drew (w : World) (g : Nat) : rowOf w.drew g = rowOf w g := rfl
@[go_sem] theorem rowOf_alloc_own (w : World) (cs : Array Value) (t : TypeId) : rowOf (w.alloc (.cells cs t)) w.heap.size = some cs := (IsB.of_new w t cs rfl).row
@[go_sem] theorem rowOf_alloc_far (w : World) (o : Obj) (g : Nat) (h : g ≠ w.heap.size) : rowOf (w.alloc o) g = rowOf w g := by
  unfold rowOf
  show (match (w.heap.push o)[g]? with | some (.cells cs _ (0, 0)) => some cs | _ => none) = _
  rw [Array.getElem?_push, if_neg h]
@[go_sem] theorem rowOf_drewN (w : World) (n g : Nat) : rowOf (w.drewN n) g = rowOf w g := rfl
/-- A load that is not run (its block is not known). -/
def later (P : Program) (ty : TypeId) (a : Addr) (w : World) : Result Value := (Instr.loadAt ty (.pointer (some a))).run P w
theorem run_load_rowOf {P : Program} (ty : TypeId) (d : TypeDesc) (n : Nat) (hu : P.underlying ty = some d) (hd : d.isRow = true) (hi : (P.info? ty).map (·.size) = some n) (w : World) (g o : Nat) :
    (Instr.loadAt ty (.pointer (some ⟨g, o, none⟩))).run P w = (rowOf w g).elim (later P ty ⟨g, o, none⟩ w) fun cs => if o + n ≤ cs.size then .ok (.agg (cs.toList.drop o |>.take n).toArray) w else later P ty ⟨g, o, none⟩ w := by
  cases h : rowOf w g with
  | none => rfl
  | some cs =>
    simp only [Option.elim_some]
    split
    · rename_i hle
      have hb : ∃ t, IsB w g t cs := by
        unfold rowOf at h
        split at h
        · rename_i t hh; simp only [Option.some.injEq] at h; subst h; exact ⟨t, hh⟩
        · cases h
      obtain ⟨t, hb⟩ := hb
      refine run_loadAt_mid w g o ty (cs.toList.drop o |>.take n) d (fun j v hv => ?_) hu hd (by rw [hi]; simp; omega)
      rw [hb.cell]
      rw [List.getElem?_take] at hv
      split at hv
      · rw [List.getElem?_drop] at hv; simpa using hv
      · simp at hv
    · rfl

theorem rowOf_isB {w : World} {g : Nat} {cs : Array Value} (h : rowOf w g = some cs) : ∃ t, IsB w g t cs := by
  unfold rowOf at h
  split at h
  · rename_i t hh; simp only [Option.some.injEq] at h; subst h; exact ⟨t, hh⟩
  · cases h
theorem setRow_isB {w : World} {g : Nat} {t : TypeId} {cs : Array Value} (h : IsB w g t cs) (cs' : Array Value) : IsB (w.setRow g cs') g t cs' := by
  unfold IsB at h ⊢
  simp [World.setRow, Array.getElem?_modify, h]
theorem setRow_only (w : World) (g : Nat) (cs : Array Value) : Only g w (w.setRow g cs) :=
  ⟨rfl, rfl, rfl, by simp, fun k hk => by simp [World.setRow, Array.getElem?_modify, Ne.symm hk]⟩
@[go_sem] theorem rowOf_setRow_own (w : World) (g : Nat) (cs : Array Value) (h : (rowOf w g).isSome = true) : rowOf (w.setRow g cs) g = some cs := by
  obtain ⟨x, hx⟩ := Option.isSome_iff_exists.1 h
  obtain ⟨t, hb⟩ := rowOf_isB hx
  exact (setRow_isB hb cs).row
@[go_sem] theorem rowOf_setRow_far (w : World) (g g' : Nat) (cs : Array Value) (h : g' ≠ g) : rowOf (w.setRow g cs) g' = rowOf w g' := by
  unfold rowOf; rw [(setRow_only w g cs).block g' h]
@[go_sem] theorem cell?_setRow_far (w : World) (g g' o : Nat) (cs : Array Value) (h : g' ≠ g) : (w.setRow g cs).cell? ⟨g', o, none⟩ = w.cell? ⟨g', o, none⟩ :=
  World.cell?_of_block ((setRow_only w g cs).block g' h)
@[go_sem] theorem cell?_setRow_own (w : World) (g o : Nat) (cs : Array Value) (h : (rowOf w g).isSome = true) : (w.setRow g cs).cell? ⟨g, o, none⟩ = cs[o]? := by
  obtain ⟨x, hx⟩ := Option.isSome_iff_exists.1 h
  obtain ⟨t, hb⟩ := rowOf_isB hx
  exact (setRow_isB hb cs).cell o
theorem world_ext {a b : World} (h1 : a.heap = b.heap) (h2 : a.tape = b.tape) (h3 : a.drawn = b.drawn) (h4 : a.os = b.os) (h5 : a.output = b.output) : a = b := by
  cases a; cases b; simp_all
/-- A store that is not run. -/
def laterS (P : Program) (ty : TypeId) (a : Addr) (v : Value) (w : World) : Result Unit := (Instr.storeAt ty (.pointer (some a)) v).run P w
theorem run_store_rowOf {P : Program} (ty : TypeId) (n : Nat) (hi : (P.info? ty).map (·.size) = some n) (w : World) (g : Nat) (cells : Array Value) :
    (Instr.storeAt ty (.pointer (some ⟨g, 0, none⟩)) (.agg cells)).run P w = (rowOf w g).elim (laterS P ty ⟨g, 0, none⟩ (.agg cells) w) fun cs => if cs.size = n ∧ cells.size = n ∧ cells.all (·.oneCell') = true then .ok () (w.setRow g cells) else laterS P ty ⟨g, 0, none⟩ (.agg cells) w := by
  cases h : rowOf w g with
  | none => rfl
  | some cs =>
    simp only [Option.elim_some]
    split
    · rename_i hc
      obtain ⟨h1, h2, h3⟩ := hc
      obtain ⟨t, hb⟩ := rowOf_isB h
      have hr := run_storeAt_mid (P := P) w g 0 ty cells (fun j hj => by
        rw [Nat.zero_add, hb.cell, hb.free]
        exact ⟨by rw [Array.getElem?_eq_getElem (by omega)]; rfl, rfl⟩) (by rw [hi, h2]) h3
      rw [hr]
      have e : w.setCells g 0 cells.toList = w.setRow g cells := by
        obtain ⟨cs2, h', hs, hj⟩ := setCells_isB g t cells.toList 0 w cs hb
        have ho := Only.setCells g cells.toList 0 w
        have hc2 : cs2 = cells := by
          apply Array.ext_getElem?
          intro j
          rw [hj j]
          by_cases hlt : j < cs.size
          · rw [if_pos ⟨by omega, by simp; omega, hlt⟩]; simp
          · rw [if_neg (fun hh => hlt hh.2.2), Array.getElem?_eq_none (by omega), Array.getElem?_eq_none (by omega)]
        subst hc2
        have hheap : (w.setCells g 0 cs2.toList).heap = (w.setRow g cs2).heap := by
          apply Array.ext_getElem?
          intro k
          by_cases hk : k = g
          · subst hk
            have := setRow_isB hb cs2
            unfold IsB at h' this
            rw [h', this]
          · rw [ho.block k hk, (setRow_only w g cs2).block k hk]
        have hd : ∀ (vs : List Value) (o : Nat) (w : World), (w.setCells g o vs).drawn = w.drawn := by
          intro vs
          induction vs with
          | nil => intros; rfl
          | cons v r ih => intro o w; exact ih (o + 1) _
        have hdr := hd cs2.toList 0 w
        exact world_ext hheap ho.tape hdr ho.os ho.output
      rw [e]
    · rfl

/-- A load, a store, as operations on values: so that the walk's rules meet them when their operands are written out. -/
def ldOp (P : Program) (ty : TypeId) (v : Value) (w : World) : Result Next := ((Instr.loadAt ty v).run P w).andThen fun a w' => .ok (.value a) w'
def stOp (P : Program) (ty : TypeId) (v u : Value) (w : World) : Result Next := ((Instr.storeAt ty v u).run P w).andThen fun _ w' => .ok .skip w'
theorem exec_ld {P : Program} (ty : TypeId) (ev : Operand → Value) (d : Option Tmp) (x : Operand) (t : TypeId) (p : String) (af : Array Edge) (gd : Option (Nat × Bool)) (w : World) :
    (execOp ev ⟨d, .load ty x, t, p, af, gd⟩).run P w = ldOp P ty (ev x) w := by
  unfold execOp ldOp
  simp only [Sem.run_bind]
  rfl
theorem exec_st {P : Program} (ty : TypeId) (ev : Operand → Value) (d : Option Tmp) (x y : Operand) (t : TypeId) (p : String) (af : Array Edge) (gd : Option (Nat × Bool)) (w : World) :
    (execOp ev ⟨d, .store ty x y, t, p, af, gd⟩).run P w = stOp P ty (ev x) (ev y) w := by
  unfold execOp stOp
  simp only [Sem.run_bind]
  rfl

def laterL (P : Program) (ty : TypeId) (a : Addr) (w : World) : Result Next := ldOp P ty (.pointer (some a)) w
def laterT (P : Program) (ty : TypeId) (a : Addr) (v : Value) (w : World) : Result Next := stOp P ty (.pointer (some a)) v w
theorem ldOp_row {P : Program} (ty : TypeId) (d : TypeDesc) (n : Nat) (hu : P.underlying ty = some d) (hd : d.isRow = true) (hi : (P.info? ty).map (·.size) = some n) (w : World) (g o : Nat) :
    ldOp P ty (.pointer (some ⟨g, o, none⟩)) w = (rowOf w g).elim (laterL P ty ⟨g, o, none⟩ w) fun cs => if o + n ≤ cs.size then .ok (.value (.agg (cs.toList.drop o |>.take n).toArray)) w else laterL P ty ⟨g, o, none⟩ w := by
  cases h : rowOf w g with
  | none => rfl
  | some cs =>
    simp only [Option.elim_some]
    split
    · rename_i hle
      have := run_load_rowOf (P := P) ty d n hu hd hi w g o
      rw [h] at this
      simp only [Option.elim_some, if_pos hle] at this
      unfold ldOp
      rw [this]; rfl
    · rfl
@[go_sem] theorem oneCell_bool (b : Bool) : (Value.bool b).oneCell' = true := rfl
@[go_sem] theorem oneCell_int (k : IntKind) (n : Int) : (Value.int k n).oneCell' = true := rfl
@[go_sem] theorem oneCell_string (s : ByteArray) : (Value.string s).oneCell' = true := rfl
@[go_sem] theorem oneCell_ptr (a : Option Addr) : (Value.pointer a).oneCell' = true := rfl
@[go_sem] theorem oneCell_slice (a : Option Addr) (n c : Nat) : (Value.slice a n c).oneCell' = true := rfl
theorem stOp_row {P : Program} (ty : TypeId) (n : Nat) (hi : (P.info? ty).map (·.size) = some n) (w : World) (g : Nat) (cells : Array Value) :
    stOp P ty (.pointer (some ⟨g, 0, none⟩)) (.agg cells) w = (rowOf w g).elim (laterT P ty ⟨g, 0, none⟩ (.agg cells) w) fun cs => if cs.size = n ∧ cells.size = n ∧ cells.toList.all (·.oneCell') = true then .ok .skip (w.setRow g cells) else laterT P ty ⟨g, 0, none⟩ (.agg cells) w := by
  cases h : rowOf w g with
  | none => rfl
  | some cs =>
    simp only [Option.elim_some]
    split
    · rename_i hle
      have := run_store_rowOf (P := P) ty n hi w g cells
      rw [h] at this
      simp only [Option.elim_some, if_pos (show cs.size = n ∧ cells.size = n ∧ cells.all (·.oneCell') = true from ⟨hle.1, hle.2.1, by simpa using hle.2.2⟩)] at this
      unfold stOp
      rw [this]; rfl
    · rfl

/-- GUARDS: each is the goal itself, met by its looks alone ('with_reducible refine at_store T (.tmp n) ?_'): so that a law is tried at that operation and at no other. -/
theorem at_store {P : Program} {ops : Array Oper} {rest : List Oper} {a : Act} {w : World} {Q : Exit → Act → World → Prop} (ty : TypeId) (x : Operand) {y : Operand} {d : Option Tmp} {t : TypeId} {p : String} {af : Array Edge}
    (h : wpList P ops Q (⟨d, .store ty x y, t, p, af, none⟩ :: rest) a w) : wpList P ops Q (⟨d, .store ty x y, t, p, af, none⟩ :: rest) a w := h
theorem at_load {P : Program} {ops : Array Oper} {rest : List Oper} {a : Act} {w : World} {Q : Exit → Act → World → Prop} (ty : TypeId) (x : Operand) {d : Option Tmp} {t : TypeId} {p : String} {af : Array Edge}
    (h : wpList P ops Q (⟨d, .load ty x, t, p, af, none⟩ :: rest) a w) : wpList P ops Q (⟨d, .load ty x, t, p, af, none⟩ :: rest) a w := h
theorem at_slot {P : Program} {ops : Array Oper} {rest : List Oper} {a : Act} {w : World} {Q : Exit → Act → World → Prop} (s : Nat) {o : Op} {t : TypeId} {p : String} {af : Array Edge} {g : Option (Nat × Bool)}
    (h : wpList P ops Q (⟨some s, o, t, p, af, g⟩ :: rest) a w) : wpList P ops Q (⟨some s, o, t, p, af, g⟩ :: rest) a w := h

/-- A result that lies in a block known whole, and a number behind it. -/
theorem results_cell_tmp {P : Program} {fn : Func} {p q : Tmp} {ty : TypeId} (h : fn.results = #[.cell p ty, .tmp q]) (tmps : Array Value) (w : World) (g : Nat) (t : TypeId) (cs : Array Value) (d : TypeDesc)
    (hp : tmps.getD p undef = .pointer (some ⟨g, 0, none⟩)) (hg : IsB w g t cs)
    (hu : P.underlying ty = some d) (hd : (match d with | .struct _ | .array _ _ => true | _ => false) = true) (hi : (P.info? ty).map (·.size) = some cs.size) :
    (results fn tmps).run P w = .ok (.tuple #[.agg cs, tmps.getD q undef]) w := by
  have hp' : tmps[p]?.getD undef = .pointer (some ⟨g, 0, none⟩) := by simpa using hp
  simp [results, h, hp', asAddr, run_loadVar_row w g t ty cs (0, 0) d hg hu hd hi]

/-- A cell behind a store at its own address, whatever it held: so loads behind many stores are run without a condition. -/
@[go_sem] theorem cell?_setCell_own (w : World) (g o : Nat) (v : Value) : (w.setCell ⟨g, o, none⟩ v).cell? ⟨g, o, none⟩ = (w.cell? ⟨g, o, none⟩).map fun _ => v := by
  simp only [World.setCell, World.cell?, Array.getElem?_modify, ↓reduceIte]
  cases w.heap[g]? with
  | none => rfl
  | some x =>
    cases x <;> simp
    rename_i c e f
    by_cases h : o < c.size
    · simp [h]
    · simp [h]

theorem below_drewN {B : Nat} {a w : World} (h : Below B a w) (n : Nat) : Below B a (w.drewN n) := ⟨h.os, h.tape, h.output, h.size, h.block⟩

theorem bcell {W w1 : World} (hb : Below W.heap.size W w1) : (∀ b o, b < W.heap.size → w1.cell? ⟨b, o, none⟩ = W.cell? ⟨b, o, none⟩) ∧ (∀ b o, b < W.heap.size → w1.frozen? ⟨b, o, none⟩ = W.frozen? ⟨b, o, none⟩) :=
  ⟨fun b o h => hb.cell (p := ⟨b, o, none⟩) h, fun b o h => hb.frozen (p := ⟨b, o, none⟩) h⟩

theorem ret_bool {a b : Bool} (h : a = b) : Ending.returned (.bool a) = .returned (.bool b) := by rw [h]
theorem ret_i64 {a b : Int} (h : a = b) : Ending.returned (.int .i64 a) = .returned (.int .i64 b) := by rw [h]

end Go.Proofs.YtfljebipoajfpaaDoor
