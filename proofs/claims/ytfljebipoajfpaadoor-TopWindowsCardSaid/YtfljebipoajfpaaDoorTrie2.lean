/- Find in a table of one route. -/
import Derived.Test.YtfljebipoajfpaaDoorTrie1
namespace Go.Proofs.YtfljebipoajfpaaDoor
open Go.RowKit Go.Sort

section
variable {ops : Array Oper} {rest : List Oper} {op : Oper} {a : Act} {w : World}
theorem lds_nodP {Q : Act → Prop} (x : Operand) {g : Nat} {t : TypeId} {six : Bool} {f : Nat → Nat} {n o : Int} {l r : Value} (hB : IsB w g t (nod six f n o l r)) (hgd : Region.wanted op (yielded ops a.tmps) = true) (ho : op.op = .load 70 x) (hx : a.eval x = .pointer (some ⟨g, 0, none⟩))
    (h : wpStill Tryd.prog ops w Q rest (a.put op.dst (.agg (pfx six f n)))) : wpStill Tryd.prog ops w Q (op :: rest) a :=
  wpStill_load_sub hgd 70 x ho g 0 hx hB (pfx six f n) rfl _ Tryd.underlying70 rfl infoPfx h
theorem lds_rte {Q : Act → Prop} (x : Operand) {g : Nat} {t : TypeId} {six : Bool} {f : Nat → Nat} {n o : Int} (hB : IsB w g t (rte six f n o)) (hgd : Region.wanted op (yielded ops a.tmps) = true) (ho : op.op = .load 78 x) (hx : a.eval x = .pointer (some ⟨g, 0, none⟩))
    (h : wpStill Tryd.prog ops w Q rest (a.put op.dst (.agg (rte six f n o)))) : wpStill Tryd.prog ops w Q (op :: rest) a :=
  wpStill_load_sub hgd 78 x ho g 0 hx hB (rte six f n o) rfl _ Tryd.underlying78 rfl infoRte h
end

attribute [local go_sem ↓] ex_ldRte ex_stRte
attribute [local go_sem] row_ldRte row_stRte

theorem bitF_lt (f : Nat → Nat) (n : Nat) : bitF f n < 2 := Nat.mod_lt _ (by omega)

set_option maxHeartbeats 4000000 in
set_option maxRecDepth 100000 in
theorem Find_one (T N : Nat) (f g : Nat → Nat) (n : Nat) (o c : Int) (w : World) (hT : IsB w T 105 #[.pointer (some ⟨N, 0, none⟩), .pointer none, .int .i64 c]) (hN : IsB w N 111 (nod false f n o (.pointer none) (.pointer none)))
    (hr : Rt false f) (hg : Rt false g) (hn : n < 32) (ho : 1 ≤ o) (hf : fits f n = true) (hs : same16 (cutF n g) f = true) :
    Calls Tryd.prog 27 #[.pointer (some ⟨T, 0, none⟩), .agg (adr false g)] w fun e w' => e = .returned (.tuple #[.agg (rte false f n o), .bool true]) ∧ Below w.heap.size w w' := by
  have cH : ∀ W, Calls Tryd.prog 46 #[.agg (pfx false f n), .agg (adr false g)] W fun e w' => e = .returned (.bool true) ∧ Below W.heap.size W w' := fun W => by
    have := holds_any false false f g n W hr hg (by unfold digits; simp; omega)
    rwa [hf, hs] at this
  have CH := Lib.hid cH
  have cB : ∀ W, Calls Tryd.prog 47 #[.agg (adr false g), .int .i64 n] W fun e w' => e = .returned (.int .i64 (bitF g n : Nat)) ∧ Below W.heap.size W w' := fun W => by
    have := bit_any false g n W hg (by unfold digits; simp; omega)
    rwa [if_pos (by unfold digits; simp; omega)] at this
  have CB := Lib.hid cB
  have cF : ∀ W, Calls Tryd.prog 42 #[.agg (adr false g)] W fun e w' => e = .returned (.int .i64 0) ∧ Below W.heap.size W w' := fun W => family_any false g W
  have CF := Lib.hid cF
  clear cH cB cF hf hs
  have hlt := hT.lt
  have hlN := hN.lt
  go_enter Tryd.func27, Tryd.ntmps27
  have A0 : IsB (((w.alloc (.cells (adr false g) 44)).alloc (.cells (rte false (fun _ => 0) 0 0) 78)).alloc (.cells (rte false (fun _ => 0) 0 0) 78)) w.heap.size 44 (adr false g) := ((IsB.of_new w _ _ rfl).alloc _).alloc _
  have R0 : IsB (((w.alloc (.cells (adr false g) 44)).alloc (.cells (rte false (fun _ => 0) 0 0) 78)).alloc (.cells (rte false (fun _ => 0) 0 0) 78)) (w.heap.size + 1) 78 (rte false (fun _ => 0) 0 0) := (IsB.of_new _ _ _ (by simp)).alloc _
  have S0 : IsB (((w.alloc (.cells (adr false g) 44)).alloc (.cells (rte false (fun _ => 0) 0 0) 78)).alloc (.cells (rte false (fun _ => 0) 0 0) 78)) (w.heap.size + 2) 78 (rte false (fun _ => 0) 0 0) := IsB.of_new _ _ _ (by simp)
  have T0 : IsB (((w.alloc (.cells (adr false g) 44)).alloc (.cells (rte false (fun _ => 0) 0 0) 78)).alloc (.cells (rte false (fun _ => 0) 0 0) 78)) T _ _ := ((hT.alloc _).alloc _).alloc _
  have N0 : IsB (((w.alloc (.cells (adr false g) 44)).alloc (.cells (rte false (fun _ => 0) 0 0) 78)).alloc (.cells (rte false (fun _ => 0) 0 0) 78)) N _ _ := ((hN.alloc _).alloc _).alloc _
  have bw0 : Below w.heap.size w (((w.alloc (.cells (adr false g) 44)).alloc (.cells (rte false (fun _ => 0) 0 0) 78)).alloc (.cells (rte false (fun _ => 0) 0 0) 78)) := by go_grown
  go_wp2_with (refine ld_addrG (.tmp 3) A0 (by rfl) (by rfl) (by rfl) ?_)
  refine (right_any false g _ hg).mono ?_
  rintro e w1 ⟨rfl, hb1⟩
  dsimp only
  have A1 := A0.belowS hb1
  have R1 := R0.belowS hb1
  have S1 := S0.belowS hb1
  have T1 := T0.belowS hb1
  have N1 := N0.belowS hb1
  have bw1 := bw0.trans (hb1.mono bw0.size)
  clear A0 R0 S0 T0 N0 bw0 hb1
  repeat' (first | go_values | go_skip | go_guarded | go_step | go_upon)
  have q0 : ∀ d os, (grow (redrawn w1 d) os).cell? ⟨T, 0, none⟩ = some (.pointer (some ⟨N, 0, none⟩)) := fun d os => (T1.belowS (below_regrown w1 d os)).cell 0
  refine wp_region_quiet_below (by kernel_rfl) (by kernel_rfl) ?_
  repeat (first | go_big_quiet_skip | (refine ldq_adr (.tmp 3) A1.quiet (by rfl) (by rfl) (by rfl) ?_) | quiet_step (exact Calls.regrown_of (CF.out _)))
  refine wpQuiet_nil ?_
  intro _ hw'
  obtain ⟨⟨dq, osq⟩, hw''⟩ := hw'
  subst hw''
  have hq := below_regrown w1 dq osq
  generalize grow (redrawn w1 dq) osq = w2 at *
  replace A1 := A1.belowS hq
  replace R1 := R1.belowS hq
  replace S1 := S1.belowS hq
  replace N1 := N1.belowS hq
  have bw2 := bw1.trans (hq.mono bw1.size)
  clear T1 q0 bw1 hq
  repeat' (first | go_values | go_skip | go_guarded | go_step | go_upon)
  refine wp_loop_rounds 3 ?_
  rw [rounds_succ]
  repeat' (first | go_values | go_skip | go_guarded | go_step | go_upon)
  refine wp_region_quiet_below (by kernel_rfl) (by kernel_rfl) ?_
  repeat (first | go_big_quiet_skip | (refine ldq_adr (.tmp 3) A1.quiet (by rfl) (by rfl) (by rfl) ?_) | (refine ldq_nodP (.tmp 29) N1.quiet (by rfl) (by rfl) (by rfl) ?_) | quiet_step (exact Calls.regrown_of (CH.out _)))
  refine wpQuiet_nil ?_
  intro _ hw'
  obtain ⟨⟨dq, osq⟩, hw''⟩ := hw'
  subst hw''
  have hq := below_regrown w2 dq osq
  generalize grow (redrawn w2 dq) osq = w3 at *
  replace A1 := A1.belowS hq
  replace R1 := R1.belowS hq
  replace S1 := S1.belowS hq
  replace N1 := N1.belowS hq
  have bw3 := bw2.trans (hq.mono bw2.size)
  clear bw2 hq
  have c18 := N1.cell 18
  have d1 : decide (0 < o) = true := decide_eq_true (by omega)
  repeat' (first | go_values | go_skip | go_guarded | go_step | go_upon)
  replace c18 : w3.drew.cell? ⟨N, 18, none⟩ = some (.int .i64 o) := c18
  refine wp_region_still_tail 9 (by kernel_rfl) (by kernel_rfl) ?_
  simp only [List.take_succ_cons, List.take_zero, List.drop_succ_cons, List.drop_zero]
  repeat (first | (refine lds_nodP (.tmp 41) N1.drew (by rfl) (by rfl) (by rfl) ?_) | still_step)
  refine wpStill_nil ?_
  change wpList _ _ _ _ _ w3.drew
  replace A1 := A1.drew
  replace R1 := R1.drew
  replace S1 := S1.drew
  replace N1 := N1.drew
  replace bw3 : Below w.heap.size w w3.drew := bw3.drew
  generalize w3.drew = w3 at *
  clear c18
  go_wp2_with (refine st_rte (.tmp 6) (.tmp 47) false f n o S1 rfl (by rfl) (by rfl) (by rfl) (by rfl) ?_; intro w4 S4 ho4)
  replace A1 := A1.only ho4 (by omega)
  replace R1 := R1.only ho4 (by omega)
  replace N1 := N1.only ho4 (by omega)
  have bw4 := below_only bw3 ho4 (by omega)
  clear S1 ho4 bw3
  have q17 : ∀ d os, (grow (redrawn w4 d) os).cell? ⟨N, 17, none⟩ = some (.int .i64 n) := fun d os => (N1.belowS (below_regrown w4 d os)).cell 17
  refine wp_region_quiet_below (by kernel_rfl) (by kernel_rfl) ?_
  repeat (first | go_big_quiet_skip | (refine ldq_adr (.tmp 3) A1.quiet (by rfl) (by rfl) (by rfl) ?_) | quiet_step (exact Calls.regrown_of (CB.out _)))
  refine wpQuiet_nil ?_
  intro _ hw'
  obtain ⟨⟨dq, osq⟩, hw''⟩ := hw'
  subst hw''
  have hq := below_regrown w4 dq osq
  generalize grow (redrawn w4 dq) osq = w5 at *
  replace A1 := A1.belowS hq
  replace R1 := R1.belowS hq
  have S5 := S4.belowS hq
  replace N1 := N1.belowS hq
  have bw5 := bw4.trans (hq.mono bw4.size)
  clear bw4 hq q17 S4
  have hbit := bitF_lt g n
  have ck : w5.cell? ⟨N, 19 + bitF g n, none⟩ = some (.pointer none) := by
    rw [N1.cell]
    rcases (by omega : bitF g n = 0 ∨ bitF g n = 1) with h | h <;> rw [h] <;> rfl
  have d2 : decide (((bitF g n : Nat) : Int) < 0) = false := decide_eq_false (by omega)
  repeat' (first | go_values | go_skip | go_guarded | go_step | go_upon)
  clear ck
  rw [rounds_succ]
  repeat' (first | go_values | go_skip | go_guarded | go_step | go_upon)
  go_quiet (fail)
  have c18 : w5.cell? ⟨w.heap.size + 1 + 1, 18, none⟩ = some (.int .i64 o) := S5.cell 18
  have r5 : rowOf w5 (w.heap.size + 1 + 1) = some (rte false f n o) := S5.row
  have r1 : rowOf w5 (w.heap.size + 1) = some (rte false (fun _ => 0) 0 0) := R1.row
  repeat' (first | go_values | go_skip | go_guarded | go_step | go_upon)
  go_region
  repeat' (first | go_values | go_skip | go_guarded | go_step | go_upon)
  have R6 := setRow_isB (R1.drewN (nq + 1)) (rte false f n o)
  exact bodyPost_ret (results_cell_tmp rfl _ _ (w.heap.size + 1) _ _ _ rfl R6 Tryd.underlying78 rfl infoRte) rfl ⟨by simp [d1], below_only (below_drewN bw5 (nq + 1)) (setRow_only _ _ _) (by omega)⟩
end Go.Proofs.YtfljebipoajfpaaDoor
