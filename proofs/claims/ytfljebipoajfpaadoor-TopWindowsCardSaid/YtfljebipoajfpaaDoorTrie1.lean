/- A table of one route: what alive07 asks of the trie. -/
import Derived.Test.YtfljebipoajfpaaDoorRun
namespace Go.Proofs.YtfljebipoajfpaaDoor
open Go.RowKit Go.Sort

theorem rte_one (six : Bool) (f : Nat → Nat) (n o : Int) : (rte six f n o).all (·.oneCell') = true := by simp [rte, Value.oneCell']

section
variable {ops : Array Oper} {rest : List Oper} {op : Oper} {a : Act} {w : World} {Q : Exit → Act → World → Prop}
/-- The prefix of a route is read; a whole route is read, is written. -/
theorem ld_rteP (x : Operand) {g : Nat} {t : TypeId} {six : Bool} {f : Nat → Nat} {n o : Int} (hB : IsB w g t (rte six f n o)) (hgd : Region.wanted op (yielded ops a.tmps) = true) (ho : op.op = .load 70 x) (hx : a.eval x = .pointer (some ⟨g, 0, none⟩))
    (h : wpList Tryd.prog ops Q rest (a.put op.dst (.agg (pfx six f n))) w) : wpList Tryd.prog ops Q (op :: rest) a w :=
  wpList_load_sub hgd 70 x ho g 0 hx hB (pfx six f n) rfl _ Tryd.underlying70 rfl infoPfx h
theorem ld_rte (x : Operand) {g : Nat} {t : TypeId} {six : Bool} {f : Nat → Nat} {n o : Int} (hB : IsB w g t (rte six f n o)) (hgd : Region.wanted op (yielded ops a.tmps) = true) (ho : op.op = .load 78 x) (hx : a.eval x = .pointer (some ⟨g, 0, none⟩))
    (h : wpList Tryd.prog ops Q rest (a.put op.dst (.agg (rte six f n o))) w) : wpList Tryd.prog ops Q (op :: rest) a w :=
  wpList_load_sub hgd 78 x ho g 0 hx hB (rte six f n o) rfl _ Tryd.underlying78 rfl infoRte h
theorem st_rte (x y : Operand) {g : Nat} {t : TypeId} {cs : Array Value} (six' : Bool) (f' : Nat → Nat) (n' o' : Int) (hB : IsB w g t cs) (hs : cs.size = 19) (hgd : Region.wanted op (yielded ops a.tmps) = true) (ho : op.op = .store 78 x y) (hx : a.eval x = .pointer (some ⟨g, 0, none⟩))
    (hy : a.eval y = .agg (rte six' f' n' o')) (h : ∀ w', IsB w' g t (rte six' f' n' o') → Only g w w' → wpList Tryd.prog ops Q rest (a.put op.dst undef) w') : wpList Tryd.prog ops Q (op :: rest) a w := by
  refine wpList_store_sub hgd 78 x y ho g 0 (rte six' f' n' o') hx hy hB (rte six' f' n' o') ?_ (by rw [hs]; show 0 + 19 ≤ 19; omega) infoRte (rte_one _ _ _ _) h
  have : cs.toList.drop 19 = [] := List.drop_eq_nil_of_le (by simp [hs])
  simp [this]
theorem lds_pfx {Q : Act → Prop} (x : Operand) {g : Nat} {t : TypeId} {six : Bool} {f : Nat → Nat} {n : Int} (hB : IsB w g t (pfx six f n)) (hgd : Region.wanted op (yielded ops a.tmps) = true) (ho : op.op = .load 70 x) (hx : a.eval x = .pointer (some ⟨g, 0, none⟩))
    (h : wpStill Tryd.prog ops w Q rest (a.put op.dst (.agg (pfx six f n)))) : wpStill Tryd.prog ops w Q (op :: rest) a :=
  wpStill_load_sub hgd 70 x ho g 0 hx hB (pfx six f n) rfl _ Tryd.underlying70 rfl infoPfx h
/-- The prefix of a node is read, in a region that draws its order. -/
theorem ldq_nodP {C : World → Prop} {Q : Act → Prop} (x : Operand) {g : Nat} {t : TypeId} {six : Bool} {f : Nat → Nat} {n o : Int} {l r : Value} (hB : ∀ w, C w → IsB w g t (nod six f n o l r)) (hgd : Region.wanted op (yielded ops a.tmps) = true) (ho : op.op = .load 70 x) (hx : a.eval x = .pointer (some ⟨g, 0, none⟩))
    (h : wpQuiet Tryd.prog ops C Q rest (a.put op.dst (.agg (pfx six f n)))) : wpQuiet Tryd.prog ops C Q (op :: rest) a :=
  wpQuiet_load_sub hgd 70 x ho g 0 hx hB (pfx six f n) rfl _ Tryd.underlying70 rfl infoPfx h
end

attribute [local go_sem ↓] ex_ldPfx Go.wp_at_zero Go.wp_at_succ
attribute [local go_sem] row_ldPfx

theorem family_any (six : Bool) (f : Nat → Nat) (w : World) :
    Calls Tryd.prog 42 #[.agg (adr six f)] w fun e w' => e = .returned (.int .i64 (if six then 1 else 0)) ∧ Below w.heap.size w w' := by
  cases six <;>
  · go_enter Tryd.func42, Tryd.ntmps42
    repeat' (first | go_values | go_skip | go_guarded | go_step | go_upon)
    go_ret
    exact ⟨rfl, by go_grown⟩

set_option maxHeartbeats 1000000 in
set_option maxRecDepth 100000 in
theorem put_nil (six : Bool) (f : Nat → Nat) (n o : Int) (w : World) :
    Calls Tryd.prog 43 #[.pointer none, .agg (rte six f n o)] w fun e w' => e = .returned (.tuple #[.pointer (some ⟨w.heap.size + 1, 0, none⟩), .bool false]) ∧ IsB w' (w.heap.size + 1) 111 (nod six f n o (.pointer none) (.pointer none)) ∧ Below w.heap.size w w' := by
  have c18 : (w.alloc (.cells (rte six f n o) 78)).cell? ⟨w.heap.size, 18, none⟩ = some (.int .i64 o) := (IsB.of_new w _ _ rfl).cell 18
  go_enter Tryd.func43, Tryd.ntmps43
  go_wp2_with (refine ld_rteP (.tmp 14) (IsB.of_new w _ _ rfl) (by rfl) (by rfl) (by rfl) ?_)
  go_ret2
  exact ⟨rfl, IsB.of_new _ _ _ (by simp), by go_grown⟩

set_option maxHeartbeats 1000000 in
set_option maxRecDepth 100000 in
theorem get_nil (p : Array Value) (w : World) :
    Calls Tryd.prog 40 #[.pointer none, .agg p] w fun e w' => e = .returned (.tuple #[.int .i64 0, .bool false]) ∧ Below w.heap.size w w' := by
  go_enter Tryd.func40, Tryd.ntmps40
  repeat' (first | go_values | go_skip | go_guarded | go_step | go_upon)
  go_ret2
  exact ⟨rfl, by go_grown⟩
theorem count_nil (w : World) :
    Calls Tryd.prog 41 #[.pointer none] w fun e w' => e = .returned (.int .i64 0) ∧ Below w.heap.size w w' := by
  go_enter Tryd.func41, Tryd.ntmps41
  repeat' (first | go_values | go_skip | go_guarded | go_step | go_upon)
  go_ret
  exact ⟨rfl, by go_grown⟩

set_option maxHeartbeats 2000000 in
set_option maxRecDepth 100000 in
theorem Put_nil (f : Nat → Nat) (n : Nat) (o : Int) (w : World) (hr : Rt false f) (hn : n ≤ 32) (hf : fits f n = true) (ho : 1 ≤ o) :
    Calls Tryd.prog 25 #[.pointer none, .agg (pfx false f n), .int .i64 o] w fun e w' => ∃ T N, e = .returned (.tuple #[.pointer (some ⟨T, 0, none⟩), .int .i64 0]) ∧ IsB w' T 105 #[.pointer (some ⟨N, 0, none⟩), .pointer none, .int .i64 1] ∧ IsB w' N 111 (nod false f n o (.pointer none) (.pointer none)) ∧ Below w.heap.size w w' := by
  have HF := Lib.hid hf
  clear hf
  have d0 : decide (o < 1) = false := decide_eq_false (by omega)
  go_enter Tryd.func25, Tryd.ntmps25
  go_wp2_with (refine ld_pfx (.tmp 4) (IsB.of_new w _ _ rfl) (by rfl) (by rfl) (by rfl) ?_)
  refine (rightPrefix_any false f n _ hr hn).mono ?_
  rintro e w1 ⟨rfl, hb1⟩
  rw [HF.out]
  dsimp only
  have B1 := (IsB.of_new w 70 (pfx false f n) rfl).belowS hb1
  have bw1 : Below w.heap.size w w1 := ((Below.refl _ _).alloc (Nat.le_refl _) _).trans (hb1.mono (by simp))
  go_wp2_with (refine ld_pfx (.tmp 4) B1 (by rfl) (by rfl) (by rfl) ?_)
  refine (get_nil _ _).mono ?_
  rintro e w2 ⟨rfl, hb2⟩
  dsimp only
  have B2 := B1.belowS hb2
  have bw2 := bw1.trans (hb2.mono bw1.size)
  repeat' (first | go_values | go_skip | go_guarded | go_step | go_upon)
  refine (count_nil _).mono ?_
  rintro e w3 ⟨rfl, hb3⟩
  dsimp only
  have B3 := B2.belowS hb3
  have bw3 := bw2.trans (hb3.mono bw2.size)
  have hs3 := B3.lt
  go_wp2_with (refine ld_pfxA (.tmp 39) (B3.alloc _) (by rfl) (by rfl) (by rfl) ?_)
  refine (family_any false f _).mono ?_
  rintro e w4 ⟨rfl, hb4⟩
  rw [if_neg (by decide)]
  dsimp only
  have B4 := (B3.alloc _).belowS hb4
  have T4 := (IsB.of_new w3 105 #[.pointer none, .pointer none, .int .i64 0] rfl).belowS hb4
  have bw4 := (bw3.alloc bw3.size (.cells #[.pointer none, .pointer none, .int .i64 0] 105)).trans (hb4.mono (by have := bw3.size; simp; omega))
  repeat' (first | go_values | go_skip | go_guarded | go_step | go_upon)
  have c4 := B4.row
  have t4 := T4.cell
  go_region_with (go_at_call 43; refine (put_nil false f n o _).mono ?_; rintro e w5 ⟨rfl, N5, hb5⟩)
  all_goals
    clear c4 t4
    have T5 := T4.drew.belowS hb5
    have t50 := T5.cell
    have f50 := T5.free
    have bw5 : Below w.heap.size w w5 := bw4.drew.trans (hb5.mono bw4.size)
    repeat' (first | go_values | go_skip | go_guarded | go_step | go_upon)
    go_ret2
    refine ⟨w3.heap.size, w4.heap.size + 1, rfl, ?_, ?_, ?_⟩
    · exact (T5.put 0 _).put 2 _
    · exact (N5.far (by have := T4.lt; simp; omega) _).far (by have := T4.lt; simp; omega) _
    · exact (bw5.setCell bw3.size _).setCell bw3.size _
end Go.Proofs.YtfljebipoajfpaaDoor
