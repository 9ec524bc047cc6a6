/- Prefixes: Mask, RightPrefix, Holds: what each computes. -/
import Derived.Test.YtfljebipoajfpaaDoorEq
namespace Go.Proofs.YtfljebipoajfpaaDoor
open Go.RowKit Go.Sort

theorem infoPfx : (Tryd.prog.info? 70).map (·.size) = some 18 := by kernel_rfl
theorem pfx_one (six : Bool) (f : Nat → Nat) (n : Int) : (pfx six f n).all (·.oneCell') = true := by simp [pfx, Value.oneCell']
theorem pfx_ext {six : Bool} {f g : Nat → Nat} {n : Int} (h : ∀ i, i < 16 → f i = g i) : pfx six f n = pfx six g n := by
  simp only [pfx, h 0 (by omega), h 1 (by omega), h 2 (by omega), h 3 (by omega), h 4 (by omega), h 5 (by omega), h 6 (by omega), h 7 (by omega), h 8 (by omega), h 9 (by omega), h 10 (by omega), h 11 (by omega), h 12 (by omega), h 13 (by omega), h 14 (by omega), h 15 (by omega)]

section
variable {ops : Array Oper} {rest : List Oper} {op : Oper} {a : Act} {w : World} {Q : Exit → Act → World → Prop}
/-- The address of a prefix is read. -/
theorem ld_pfxA (x : Operand) {g : Nat} {t : TypeId} {six : Bool} {f : Nat → Nat} {n : Int} (hB : IsB w g t (pfx six f n)) (hgd : Region.wanted op (yielded ops a.tmps) = true) (ho : op.op = .load 44 x) (hx : a.eval x = .pointer (some ⟨g, 0, none⟩))
    (h : wpList Tryd.prog ops Q rest (a.put op.dst (.agg (adr six f))) w) : wpList Tryd.prog ops Q (op :: rest) a w :=
  wpList_load_sub hgd 44 x ho g 0 hx hB (adr six f) rfl _ Tryd.underlying44 rfl infoAddr h
theorem ldq_pfxA {C : World → Prop} {Q : Act → Prop} (x : Operand) {g : Nat} {t : TypeId} {six : Bool} {f : Nat → Nat} {n : Int} (hB : ∀ w, C w → IsB w g t (pfx six f n)) (hgd : Region.wanted op (yielded ops a.tmps) = true) (ho : op.op = .load 44 x) (hx : a.eval x = .pointer (some ⟨g, 0, none⟩))
    (h : wpQuiet Tryd.prog ops C Q rest (a.put op.dst (.agg (adr six f)))) : wpQuiet Tryd.prog ops C Q (op :: rest) a :=
  wpQuiet_load_sub hgd 44 x ho g 0 hx hB (adr six f) rfl _ Tryd.underlying44 rfl infoAddr h
theorem ldq_adr {C : World → Prop} {Q : Act → Prop} (x : Operand) {g : Nat} {t : TypeId} {six : Bool} {f : Nat → Nat} (hB : ∀ w, C w → IsB w g t (adr six f)) (hgd : Region.wanted op (yielded ops a.tmps) = true) (ho : op.op = .load 44 x) (hx : a.eval x = .pointer (some ⟨g, 0, none⟩))
    (h : wpQuiet Tryd.prog ops C Q rest (a.put op.dst (.agg (adr six f)))) : wpQuiet Tryd.prog ops C Q (op :: rest) a :=
  wpQuiet_load_sub hgd 44 x ho g 0 hx hB (adr six f) rfl _ Tryd.underlying44 rfl infoAddr h
theorem ldq_pfx {C : World → Prop} {Q : Act → Prop} (x : Operand) {g : Nat} {t : TypeId} {six : Bool} {f : Nat → Nat} {n : Int} (hB : ∀ w, C w → IsB w g t (pfx six f n)) (hgd : Region.wanted op (yielded ops a.tmps) = true) (ho : op.op = .load 70 x) (hx : a.eval x = .pointer (some ⟨g, 0, none⟩))
    (h : wpQuiet Tryd.prog ops C Q rest (a.put op.dst (.agg (pfx six f n)))) : wpQuiet Tryd.prog ops C Q (op :: rest) a :=
  wpQuiet_load_sub hgd 70 x ho g 0 hx hB (pfx six f n) rfl _ Tryd.underlying70 rfl infoPfx h
/-- A block stands in every world that a quiet region comes to. -/
theorem IsB.quiet {w : World} {g : Nat} {t : TypeId} {cs : Array Value} (h : IsB w g t cs) : ∀ w', (∃ p : Regrown, w' = grow (redrawn w p.d) p.os) → IsB w' g t cs := fun _ ⟨p, e⟩ => e ▸ h.belowS (below_regrown w p.d p.os)
/-- A whole prefix is read. -/
theorem ld_pfx (x : Operand) {g : Nat} {t : TypeId} {six : Bool} {f : Nat → Nat} {n : Int} (hB : IsB w g t (pfx six f n)) (hgd : Region.wanted op (yielded ops a.tmps) = true) (ho : op.op = .load 70 x) (hx : a.eval x = .pointer (some ⟨g, 0, none⟩))
    (h : wpList Tryd.prog ops Q rest (a.put op.dst (.agg (pfx six f n))) w) : wpList Tryd.prog ops Q (op :: rest) a w :=
  wpList_load_sub hgd 70 x ho g 0 hx hB (pfx six f n) rfl _ Tryd.underlying70 rfl infoPfx h
/-- The address of a prefix is written. -/
theorem st_pfxA (x y : Operand) {g : Nat} {t : TypeId} {six : Bool} {f : Nat → Nat} {n : Int} (six' : Bool) (f' : Nat → Nat) (hB : IsB w g t (pfx six f n)) (hgd : Region.wanted op (yielded ops a.tmps) = true) (ho : op.op = .store 44 x y) (hx : a.eval x = .pointer (some ⟨g, 0, none⟩))
    (hy : a.eval y = .agg (adr six' f')) (h : ∀ w', IsB w' g t (pfx six' f' n) → Only g w w' → wpList Tryd.prog ops Q rest (a.put op.dst undef) w') : wpList Tryd.prog ops Q (op :: rest) a w :=
  wpList_store_sub hgd 44 x y ho g 0 (adr six' f') hx hy hB (pfx six' f' n) rfl (show 0 + 17 ≤ 18 by omega) infoAddr (adr_one _ _) h
/-- A whole prefix is written. -/
theorem st_pfx (x y : Operand) {g : Nat} {t : TypeId} {cs : Array Value} (six' : Bool) (f' : Nat → Nat) (n' : Int) (hB : IsB w g t cs) (hs : cs.size = 18) (hgd : Region.wanted op (yielded ops a.tmps) = true) (ho : op.op = .store 70 x y) (hx : a.eval x = .pointer (some ⟨g, 0, none⟩))
    (hy : a.eval y = .agg (pfx six' f' n')) (h : ∀ w', IsB w' g t (pfx six' f' n') → Only g w w' → wpList Tryd.prog ops Q rest (a.put op.dst undef) w') : wpList Tryd.prog ops Q (op :: rest) a w := by
  refine wpList_store_sub hgd 70 x y ho g 0 (pfx six' f' n') hx hy hB (pfx six' f' n') ?_ (by rw [hs]; show 0 + 18 ≤ 18; omega) infoPfx (pfx_one _ _ _) h
  have : cs.toList.drop 18 = [] := List.drop_eq_nil_of_le (by simp [hs])
  simp [this]
end

set_option maxHeartbeats 1000000 in
set_option maxRecDepth 100000 in
theorem mask_any (six : Bool) (f : Nat → Nat) (n : Nat) (w : World) (hr : Rt six f) (hn : n ≤ digits six) :
    Calls Tryd.prog 48 #[.agg (pfx six f n)] w fun e w' => e = .returned (.tuple #[.agg (pfx six (cutF n f) n), .int .i64 0]) ∧ Below w.heap.size w w' := by
  have hd : digits six = 128 ∨ digits six = 32 := by unfold digits; cases six <;> simp
  have hdd : (if six then (128 : Int) else 32) = ((digits six : Nat) : Int) := by unfold digits; cases six <;> rfl
  have HD := Lib.hid hdd
  have d0 : decide ((n : Int) < 0) = false := decide_eq_false (by omega)
  have d1 : decide (digits six < n) = false := decide_eq_false (by omega)
  clear hdd
  go_enter Tryd.func48, Tryd.ntmps48
  go_wp2_with (refine ld_pfxA (.tmp 5) ((IsB.of_new w _ _ rfl).alloc _) (by rfl) (by rfl) (by rfl) ?_)
  refine (right_any six f _ hr).mono ?_
  rintro e w1 ⟨rfl, hb⟩
  dsimp only
  have B0 := ((IsB.of_new w 70 (pfx six f n) rfl).alloc (.cells (pfx false (fun _ => 0) 0) 70)).belowS hb
  have B1 := (IsB.of_new (g := w.heap.size + 1) (w.alloc (.cells (pfx six f n) 70)) 70 (pfx false (fun _ => 0) 0) (by simp)).belowS hb
  have bw1 : Below w.heap.size w w1 := (((Below.refl _ _).alloc (Nat.le_refl _) _).alloc (by simp) _).trans (hb.mono (by simp; omega))
  repeat' (first | go_values | go_skip | go_guarded | go_step | go_upon)
  have cq : ∀ d os o, (grow (redrawn w1 d) os).cell? ⟨w.heap.size, o, none⟩ = (pfx six f n)[o]? := fun d os o => (B0.belowS (below_regrown w1 d os)).cell o
  have hdig : ∀ d os, Calls Tryd.prog 38 #[.agg (adr six f)] (grow (redrawn w1 d) os) fun e w' => e = .returned (.int .i64 (digits six : Nat)) ∧ Below (grow (redrawn w1 d) os).heap.size (grow (redrawn w1 d) os) w' := fun d os => by
    have := digits_any six f (grow (redrawn w1 d) os)
    rwa [HD.out] at this
  refine wp_region_quiet_below (by kernel_rfl) (by kernel_rfl) ?_
  repeat (first | (refine ldq_pfxA (.tmp 17) B0.quiet (by rfl) (by rfl) (by rfl) ?_) | quiet_step (exact Calls.regrown_of (hdig _ _)))
  refine wpQuiet_nil ?_
  intro _ hw'
  obtain ⟨⟨dq, osq⟩, hw''⟩ := hw'
  subst hw''
  clear cq hdig
  have hq := below_regrown w1 dq osq
  generalize grow (redrawn w1 dq) osq = w2 at *
  have C0 := B0.belowS hq
  have C1 := B1.belowS hq
  have bw2 := bw1.trans (hq.mono bw1.size)
  have c17 : w2.cell? ⟨w.heap.size, 17, none⟩ = some (.int .i64 n) := C0.cell 17
  go_wp2_with (refine ld_pfxA (.tmp 23) C0 (by rfl) (by rfl) (by rfl) ?_)
  clear c17
  refine (cut_any six f n _ hr.byte (by omega)).mono ?_
  rintro e w3 ⟨rfl, hb3⟩
  dsimp only
  have D0 := C0.belowS hb3
  have D1 := C1.belowS hb3
  have bw3 := bw2.trans (hb3.mono bw2.size)
  go_wp2_with (first | (refine st_pfxA (.tmp 28) (.tmp 27) six (cutF n f) D0 (by rfl) (by rfl) (by rfl) (by rfl) ?_; intro w4 E0 ho4; have E1 := D1.only ho4 (by simp)) | (refine ld_pfx (.tmp 1) E0 (by rfl) (by rfl) (by rfl) ?_) | (refine st_pfx (.tmp 2) (.tmp 29) six (cutF n f) n E1 rfl (by rfl) (by rfl) (by rfl) (by rfl) ?_; intro w5 F1 ho5))
  exact bodyPost_ret (results_cell_tmp rfl _ _ (w.heap.size + 1) _ _ _ rfl F1 Tryd.underlying70 rfl infoPfx) rfl ⟨rfl, below_only (below_only bw3 ho4 (Nat.le_refl _)) ho5 (by omega)⟩
/-- Are the digits of a prefix behind its first ones all 0? -/
def fits (f : Nat → Nat) (n : Nat) : Bool := (List.range 16).all fun i => cutF n f i == f i
theorem fits_iff {f : Nat → Nat} {n : Nat} : fits f n = true ↔ ∀ i, i < 16 → cutF n f i = f i := by
  simp [fits]

set_option maxHeartbeats 1000000 in
set_option maxRecDepth 100000 in
theorem rightPrefix_any (six : Bool) (f : Nat → Nat) (n : Nat) (w : World) (hr : Rt six f) (hn : n ≤ digits six) :
    Calls Tryd.prog 39 #[.agg (pfx six f n)] w fun e w' => e = .returned (.bool (fits f n)) ∧ Below w.heap.size w w' := by
  have he : ∀ w, (Op.equalIn 10000 70 (.agg (pfx six (cutF n f) n)) (.agg (pfx six f n))).run Tryd.prog w = .ok (six == six && same16 (cutF n f) f && (n : Int) == n) w := fun w => eqPfxIn 9996 six six (cutF n f) f n n w
  go_enter Tryd.func39, Tryd.ntmps39
  go_wp2_with (refine ld_pfx (.tmp 1) (IsB.of_new w _ _ rfl) (by rfl) (by rfl) (by rfl) ?_)
  refine (mask_any six f n _ hr hn).mono ?_
  rintro e w1 ⟨rfl, hb⟩
  dsimp only
  have B0 := (IsB.of_new w 70 (pfx six f n) rfl).belowS hb
  have bw1 : Below w.heap.size w w1 := ((Below.refl _ _).alloc (Nat.le_refl _) _).trans (hb.mono (by simp))
  have hsz : w.heap.size < w1.heap.size := B0.lt
  go_wp2_with (first | (refine st_pfx (.tmp 3) (.tmp 8) six (cutF n f) n (IsB.of_new (g := w1.heap.size) w1 _ _ rfl) rfl (by rfl) (by rfl) (by rfl) (by rfl) ?_; intro w2 C1 ho2; have C0 := (B0.alloc _).only ho2 (by omega)) | (refine ld_pfx (.tmp 1) C0 (by rfl) (by rfl) (by rfl) ?_) | (refine ld_pfx (.tmp 3) C1 (by rfl) (by rfl) (by rfl) ?_))
  go_ret
  exact ⟨ret_bool (by simp [fits, same16]), below_only (bw1.alloc bw1.size _) ho2 bw1.size⟩

set_option maxHeartbeats 2000000 in
set_option maxRecDepth 100000 in
theorem holds_any (six six' : Bool) (f g : Nat → Nat) (n : Nat) (w : World) (hr : Rt six f) (hg : Rt six' g) (hn : n ≤ digits six) :
    Calls Tryd.prog 46 #[.agg (pfx six f n), .agg (adr six' g)] w fun e w' => e = .returned (.bool (fits f n && (six == six') && same16 (cutF n g) f)) ∧ Below w.heap.size w w' := by
  have hn' : n ≤ 128 := by unfold digits at hn; split at hn <;> omega
  have hR := fun w => rightPrefix_any six f n w hr hn
  cases hF : fits f n
  · have cR : ∀ w, Calls Tryd.prog 39 #[.agg (pfx six f n)] w fun e w' => e = .returned (.bool false) ∧ Below w.heap.size w w' := fun w => by have := hR w; rwa [hF] at this
    clear hR
    have HF := Lib.hid hF
    clear hF
    · -- no prefix
      go_enter Tryd.func46, Tryd.ntmps46
      repeat' (first | go_values | go_skip | go_guarded | go_step | go_upon)
      have B0 : IsB ((w.alloc (.cells (pfx six f n) 70)).alloc (.cells (adr six' g) 44)) w.heap.size 70 (pfx six f n) := (IsB.of_new w _ _ rfl).alloc _
      have B1 : IsB ((w.alloc (.cells (pfx six f n) 70)).alloc (.cells (adr six' g) 44)) (w.heap.size + 1) 44 (adr six' g) := IsB.of_new _ _ _ (by simp)
      have bw : Below w.heap.size w ((w.alloc (.cells (pfx six f n) 70)).alloc (.cells (adr six' g) 44)) := by go_grown
      generalize ((w.alloc (.cells (pfx six f n) 70)).alloc (.cells (adr six' g) 44)) = W at *
      have q0 : ∀ d os, (grow (redrawn W d) os).cell? ⟨w.heap.size, 0, none⟩ = some (.bool six) := fun d os => (B0.belowS (below_regrown W d os)).cell 0
      have q17 : ∀ d os, (grow (redrawn W d) os).cell? ⟨w.heap.size, 17, none⟩ = some (.int .i64 n) := fun d os => (B0.belowS (below_regrown W d os)).cell 17
      have p0 : ∀ d os, (grow (redrawn W d) os).cell? ⟨w.heap.size + 1, 0, none⟩ = some (.bool six') := fun d os => (B1.belowS (below_regrown W d os)).cell 0
      refine wp_region_quiet_below (by kernel_rfl) (by kernel_rfl) ?_
      repeat (first | go_big_quiet_skip | (refine ldq_pfx (.tmp 2) B0.quiet (by rfl) (by rfl) (by rfl) ?_) | (refine ldq_adr (.tmp 3) B1.quiet (by rfl) (by rfl) (by rfl) ?_) | (refine ldq_pfxA (.tmp 24) B0.quiet (by rfl) (by rfl) (by rfl) ?_) | quiet_step (first | exact Calls.regrown_of (cR _) | exact Calls.regrown_of (right_any _ _ _ hg) | exact Calls.regrown_of (cut_any _ _ _ _ hg.byte hn')))
      refine wpQuiet_nil ?_
      intro _ hw'
      obtain ⟨⟨dq, osq⟩, hw''⟩ := hw'
      subst hw''
      repeat' (first | go_values | go_skip | go_guarded | go_step | go_upon)
      go_ret
      refine ⟨ret_bool ?_, bw.trans ((below_regrown W dq osq).mono bw.size)⟩
      simp
  · have cR : ∀ w, Calls Tryd.prog 39 #[.agg (pfx six f n)] w fun e w' => e = .returned (.bool true) ∧ Below w.heap.size w w' := fun w => by have := hR w; rwa [hF] at this
    clear hR
    have HF := Lib.hid hF
    clear hF
    cases six
    · cases six'
      · have he : ∀ w, (Op.equalIn 10000 44 (.agg (adr false (cutF n g))) (.agg (adr false f))).run Tryd.prog w = .ok (false == false && same16 (cutF n g) f) w := fun w => eqAddrIn 9997 false false (cutF n g) f w
        go_enter Tryd.func46, Tryd.ntmps46
        repeat' (first | go_values | go_skip | go_guarded | go_step | go_upon)
        have B0 : IsB ((w.alloc (.cells (pfx false f n) 70)).alloc (.cells (adr false g) 44)) w.heap.size 70 (pfx false f n) := (IsB.of_new w _ _ rfl).alloc _
        have B1 : IsB ((w.alloc (.cells (pfx false f n) 70)).alloc (.cells (adr false g) 44)) (w.heap.size + 1) 44 (adr false g) := IsB.of_new _ _ _ (by simp)
        have bw : Below w.heap.size w ((w.alloc (.cells (pfx false f n) 70)).alloc (.cells (adr false g) 44)) := by go_grown
        generalize ((w.alloc (.cells (pfx false f n) 70)).alloc (.cells (adr false g) 44)) = W at *
        have q0 : ∀ d os, (grow (redrawn W d) os).cell? ⟨w.heap.size, 0, none⟩ = some (.bool false) := fun d os => (B0.belowS (below_regrown W d os)).cell 0
        have q17 : ∀ d os, (grow (redrawn W d) os).cell? ⟨w.heap.size, 17, none⟩ = some (.int .i64 n) := fun d os => (B0.belowS (below_regrown W d os)).cell 17
        have p0 : ∀ d os, (grow (redrawn W d) os).cell? ⟨w.heap.size + 1, 0, none⟩ = some (.bool false) := fun d os => (B1.belowS (below_regrown W d os)).cell 0
        refine wp_region_quiet_below (by kernel_rfl) (by kernel_rfl) ?_
        repeat (first | go_big_quiet_skip | (refine ldq_pfx (.tmp 2) B0.quiet (by rfl) (by rfl) (by rfl) ?_) | (refine ldq_adr (.tmp 3) B1.quiet (by rfl) (by rfl) (by rfl) ?_) | (refine ldq_pfxA (.tmp 24) B0.quiet (by rfl) (by rfl) (by rfl) ?_) | quiet_step (first | exact Calls.regrown_of (cR _) | exact Calls.regrown_of (right_any _ _ _ hg) | exact Calls.regrown_of (cut_any _ _ _ _ hg.byte hn')))
        refine wpQuiet_nil ?_
        intro _ hw'
        obtain ⟨⟨dq, osq⟩, hw''⟩ := hw'
        subst hw''
        repeat' (first | go_values | go_skip | go_guarded | go_step | go_upon)
        go_ret
        refine ⟨ret_bool ?_, bw.trans ((below_regrown W dq osq).mono bw.size)⟩
        simp [HF.out]
      · go_enter Tryd.func46, Tryd.ntmps46
        repeat' (first | go_values | go_skip | go_guarded | go_step | go_upon)
        have B0 : IsB ((w.alloc (.cells (pfx false f n) 70)).alloc (.cells (adr true g) 44)) w.heap.size 70 (pfx false f n) := (IsB.of_new w _ _ rfl).alloc _
        have B1 : IsB ((w.alloc (.cells (pfx false f n) 70)).alloc (.cells (adr true g) 44)) (w.heap.size + 1) 44 (adr true g) := IsB.of_new _ _ _ (by simp)
        have bw : Below w.heap.size w ((w.alloc (.cells (pfx false f n) 70)).alloc (.cells (adr true g) 44)) := by go_grown
        generalize ((w.alloc (.cells (pfx false f n) 70)).alloc (.cells (adr true g) 44)) = W at *
        have q0 : ∀ d os, (grow (redrawn W d) os).cell? ⟨w.heap.size, 0, none⟩ = some (.bool false) := fun d os => (B0.belowS (below_regrown W d os)).cell 0
        have q17 : ∀ d os, (grow (redrawn W d) os).cell? ⟨w.heap.size, 17, none⟩ = some (.int .i64 n) := fun d os => (B0.belowS (below_regrown W d os)).cell 17
        have p0 : ∀ d os, (grow (redrawn W d) os).cell? ⟨w.heap.size + 1, 0, none⟩ = some (.bool true) := fun d os => (B1.belowS (below_regrown W d os)).cell 0
        refine wp_region_quiet_below (by kernel_rfl) (by kernel_rfl) ?_
        repeat (first | go_big_quiet_skip | (refine ldq_pfx (.tmp 2) B0.quiet (by rfl) (by rfl) (by rfl) ?_) | (refine ldq_adr (.tmp 3) B1.quiet (by rfl) (by rfl) (by rfl) ?_) | (refine ldq_pfxA (.tmp 24) B0.quiet (by rfl) (by rfl) (by rfl) ?_) | quiet_step (first | exact Calls.regrown_of (cR _) | exact Calls.regrown_of (right_any _ _ _ hg) | exact Calls.regrown_of (cut_any _ _ _ _ hg.byte hn')))
        refine wpQuiet_nil ?_
        intro _ hw'
        obtain ⟨⟨dq, osq⟩, hw''⟩ := hw'
        subst hw''
        repeat' (first | go_values | go_skip | go_guarded | go_step | go_upon)
        go_ret
        refine ⟨ret_bool ?_, bw.trans ((below_regrown W dq osq).mono bw.size)⟩
        simp
    · cases six'
      · go_enter Tryd.func46, Tryd.ntmps46
        repeat' (first | go_values | go_skip | go_guarded | go_step | go_upon)
        have B0 : IsB ((w.alloc (.cells (pfx true f n) 70)).alloc (.cells (adr false g) 44)) w.heap.size 70 (pfx true f n) := (IsB.of_new w _ _ rfl).alloc _
        have B1 : IsB ((w.alloc (.cells (pfx true f n) 70)).alloc (.cells (adr false g) 44)) (w.heap.size + 1) 44 (adr false g) := IsB.of_new _ _ _ (by simp)
        have bw : Below w.heap.size w ((w.alloc (.cells (pfx true f n) 70)).alloc (.cells (adr false g) 44)) := by go_grown
        generalize ((w.alloc (.cells (pfx true f n) 70)).alloc (.cells (adr false g) 44)) = W at *
        have q0 : ∀ d os, (grow (redrawn W d) os).cell? ⟨w.heap.size, 0, none⟩ = some (.bool true) := fun d os => (B0.belowS (below_regrown W d os)).cell 0
        have q17 : ∀ d os, (grow (redrawn W d) os).cell? ⟨w.heap.size, 17, none⟩ = some (.int .i64 n) := fun d os => (B0.belowS (below_regrown W d os)).cell 17
        have p0 : ∀ d os, (grow (redrawn W d) os).cell? ⟨w.heap.size + 1, 0, none⟩ = some (.bool false) := fun d os => (B1.belowS (below_regrown W d os)).cell 0
        refine wp_region_quiet_below (by kernel_rfl) (by kernel_rfl) ?_
        repeat (first | go_big_quiet_skip | (refine ldq_pfx (.tmp 2) B0.quiet (by rfl) (by rfl) (by rfl) ?_) | (refine ldq_adr (.tmp 3) B1.quiet (by rfl) (by rfl) (by rfl) ?_) | (refine ldq_pfxA (.tmp 24) B0.quiet (by rfl) (by rfl) (by rfl) ?_) | quiet_step (first | exact Calls.regrown_of (cR _) | exact Calls.regrown_of (right_any _ _ _ hg) | exact Calls.regrown_of (cut_any _ _ _ _ hg.byte hn')))
        refine wpQuiet_nil ?_
        intro _ hw'
        obtain ⟨⟨dq, osq⟩, hw''⟩ := hw'
        subst hw''
        repeat' (first | go_values | go_skip | go_guarded | go_step | go_upon)
        go_ret
        refine ⟨ret_bool ?_, bw.trans ((below_regrown W dq osq).mono bw.size)⟩
        simp
      · have he : ∀ w, (Op.equalIn 10000 44 (.agg (adr true (cutF n g))) (.agg (adr true f))).run Tryd.prog w = .ok (true == true && same16 (cutF n g) f) w := fun w => eqAddrIn 9997 true true (cutF n g) f w
        go_enter Tryd.func46, Tryd.ntmps46
        repeat' (first | go_values | go_skip | go_guarded | go_step | go_upon)
        have B0 : IsB ((w.alloc (.cells (pfx true f n) 70)).alloc (.cells (adr true g) 44)) w.heap.size 70 (pfx true f n) := (IsB.of_new w _ _ rfl).alloc _
        have B1 : IsB ((w.alloc (.cells (pfx true f n) 70)).alloc (.cells (adr true g) 44)) (w.heap.size + 1) 44 (adr true g) := IsB.of_new _ _ _ (by simp)
        have bw : Below w.heap.size w ((w.alloc (.cells (pfx true f n) 70)).alloc (.cells (adr true g) 44)) := by go_grown
        generalize ((w.alloc (.cells (pfx true f n) 70)).alloc (.cells (adr true g) 44)) = W at *
        have q0 : ∀ d os, (grow (redrawn W d) os).cell? ⟨w.heap.size, 0, none⟩ = some (.bool true) := fun d os => (B0.belowS (below_regrown W d os)).cell 0
        have q17 : ∀ d os, (grow (redrawn W d) os).cell? ⟨w.heap.size, 17, none⟩ = some (.int .i64 n) := fun d os => (B0.belowS (below_regrown W d os)).cell 17
        have p0 : ∀ d os, (grow (redrawn W d) os).cell? ⟨w.heap.size + 1, 0, none⟩ = some (.bool true) := fun d os => (B1.belowS (below_regrown W d os)).cell 0
        refine wp_region_quiet_below (by kernel_rfl) (by kernel_rfl) ?_
        repeat (first | go_big_quiet_skip | (refine ldq_pfx (.tmp 2) B0.quiet (by rfl) (by rfl) (by rfl) ?_) | (refine ldq_adr (.tmp 3) B1.quiet (by rfl) (by rfl) (by rfl) ?_) | (refine ldq_pfxA (.tmp 24) B0.quiet (by rfl) (by rfl) (by rfl) ?_) | quiet_step (first | exact Calls.regrown_of (cR _) | exact Calls.regrown_of (right_any _ _ _ hg) | exact Calls.regrown_of (cut_any _ _ _ _ hg.byte hn')))
        refine wpQuiet_nil ?_
        intro _ hw'
        obtain ⟨⟨dq, osq⟩, hw''⟩ := hw'
        subst hw''
        repeat' (first | go_values | go_skip | go_guarded | go_step | go_upon)
        go_ret
        refine ⟨ret_bool ?_, bw.trans ((below_regrown W dq osq).mono bw.size)⟩
        simp [HF.out]

end Go.Proofs.YtfljebipoajfpaaDoor
