/- The window's Take: what it computes, said of natural numbers. -/
import Derived.Test.YtfljebipoajfpaaDoorWin
namespace Go.Proofs.YtfljebipoajfpaaDoor
open Go.RowKit

theorem Win.check_zero {nx s0 s1 n : Nat} (h : Win.check nx s0 s1 n = 0) : n < 18446744073709543423 ∧ Win.has nx s0 s1 n = false ∧ (n < nx → nx - 1 - n < 128) := by
  unfold Win.check at h
  by_cases h0 : 18446744073709543423 ≤ n
  · rw [if_pos h0] at h; omega
  · rw [if_neg h0] at h
    split at h
    · omega
    · rename_i h1
      simp only [Bool.or_eq_true, Bool.and_eq_true, decide_eq_true_eq, not_or, Bool.not_eq_true, not_and] at h1
      exact ⟨by omega, h1.1, fun hl => by have := h1.2 hl; omega⟩

theorem Win.set_or (s k : Nat) (hs : s < 18446744073709551616) (hk : k < 64) : bits BinOp.or IntKind.u64 (s : Int) (2 ^ k) = ((s ||| 2 ^ k : Nat) : Int) := by
  have h : 2 ^ k < 18446744073709551616 := Nat.lt_of_lt_of_le (Nat.pow_lt_pow_right (by omega) hk) (by omega)
  have e : ((2 : Int) ^ k) = ((2 ^ k : Nat) : Int) := by simp
  rw [e, u64_or_nat _ _ hs h]

theorem Win.wrap_pow (k : Nat) (hk : k < 64) : IntKind.u64.wrap ((2 : Int) ^ k) = 2 ^ k := by
  have h : 2 ^ k < 18446744073709551616 := Nat.lt_of_lt_of_le (Nat.pow_lt_pow_right (by omega) hk) (by omega)
  have e : ((2 : Int) ^ k) = ((2 ^ k : Nat) : Int) := by simp
  rw [e, IntKind.wrap_u64]; generalize 2 ^ k = q at *; omega

set_option maxRecDepth 100000 in
theorem take_no (nx s0 s1 n : Nat) (w : World) (hnx : nx < 18446744073709551616) (hn : n < 18446744073709551616) (hs0 : s0 < 18446744073709551616) (hs1 : s1 < 18446744073709551616) (hc : Win.check nx s0 s1 n ≠ 0) :
    Calls Tryd.prog 7 #[.agg #[.int .u64 nx, .int .u64 s0, .int .u64 s1], .int .u64 n] w fun e w' => e = .returned (.tuple #[winV (nx, s0, s1), .int .i64 (Win.check nx s0 s1 n)]) ∧ Below w.heap.size w w' := by
  generalize hg : Win.check nx s0 s1 n = c at *
  have HG := Lib.hid hg
  clear hg
  have hc' : (c != 0) = true := by simpa using hc
  go_enter Tryd.func7, Tryd.ntmps7
  go_wp2_with fail
  refine (check_any nx s0 s1 n _ hnx hn hs0 hs1).mono ?_
  rintro e w1 ⟨rfl, hb⟩
  rw [HG.out]; dsimp only
  have B0 := ((IsB.of_new w 26 #[.int .u64 nx, .int .u64 s0, .int .u64 s1] rfl).alloc (.cells #[.int .u64 0, .int .u64 0, .int .u64 0] 26)).belowS hb
  have B1 := (IsB.of_new (g := w.heap.size + 1) (w.alloc (.cells #[.int .u64 nx, .int .u64 s0, .int .u64 s1] 26)) 26 #[.int .u64 0, .int .u64 0, .int .u64 0] (by simp)).belowS hb
  have c0 := B0.cell
  have c1 := B1.cell
  have f0 := B0.free
  have f1 := B1.free
  go_wp2_with fail
  exact bodyPost_ret (v := .tuple #[winV (nx, s0, s1), .int .i64 c]) (by simp [results, Tryd.results7, go_sem, c1, winV]) rfl ⟨rfl, by
    refine Below.setCell (Below.setCell (Below.setCell (((Below.refl _ _).alloc (Nat.le_refl _) _ |>.alloc (by simp) _).trans (hb.mono (by simp; omega))) ?_ _) ?_ _) ?_ _ <;> simp⟩

set_option maxRecDepth 100000 in
theorem take_a (nx s0 s1 n : Nat) (w : World) (hnx : nx < 18446744073709551616) (hn : n < 18446744073709551616) (hs0 : s0 < 18446744073709551616) (hs1 : s1 < 18446744073709551616) (hc : Win.check nx s0 s1 n = 0)
    (h1 : nx ≤ n) (h2 : n + 1 - nx < 128) :
    Calls Tryd.prog 7 #[.agg #[.int .u64 nx, .int .u64 s0, .int .u64 s1], .int .u64 n] w fun e w' => e = .returned (.tuple #[winV (Win.take nx s0 s1 n), .int .i64 0]) ∧ Below w.heap.size w w' := by
  have HR := (Win.check_zero hc).1
  have HG := Lib.hid hc
  clear hc
  have d1 : decide (nx ≤ n) = true := decide_eq_true h1
  have d2 : decide ((n : Int) + 1 - nx < 128) = true := decide_eq_true (by omega)
  go_enter Tryd.func7, Tryd.ntmps7
  repeat' (first | go_values | go_skip | go_guarded | go_step | go_upon)
  refine (check_any nx s0 s1 n _ hnx hn hs0 hs1).mono ?_
  rintro e w1 ⟨rfl, hb⟩
  rw [HG.out]; dsimp only
  have B0 := ((IsB.of_new w 26 #[.int .u64 nx, .int .u64 s0, .int .u64 s1] rfl).alloc (.cells #[.int .u64 0, .int .u64 0, .int .u64 0] 26)).belowS hb
  have B1 := (IsB.of_new (g := w.heap.size + 1) (w.alloc (.cells #[.int .u64 nx, .int .u64 s0, .int .u64 s1] 26)) 26 #[.int .u64 0, .int .u64 0, .int .u64 0] (by simp)).belowS hb
  have bw1 : Below w.heap.size w w1 := (((Below.refl _ _).alloc (Nat.le_refl _) _).alloc (by simp) _).trans (hb.mono (by simp; omega))
  have c0 := B0.cell
  have c1 := B1.cell
  have f0 := B0.free
  have f1 := B1.free
  repeat' (first | go_values | go_skip | go_guarded | go_step | go_upon)
  have ea : ((n : Int) + 1 - nx) = ((n + 1 - nx : Nat) : Int) := by omega
  rw [ea]
  clear ea
  refine (move_any nx s0 s1 (n + 1 - nx) _ hnx hs0 hs1 h2).mono ?_
  rintro e w2 ⟨rfl, hb2⟩
  have D0 := B0.belowS hb2
  have D1 := B1.belowS hb2
  have bw2 := bw1.trans (hb2.mono bw1.size)
  clear c0 c1 f0 f1
  have c0 := D0.cell
  have c1 := D1.cell
  have f0 := D0.free
  have f1 := D1.free
  dsimp only
  repeat' (first | go_values | go_skip | go_guarded | go_step | go_upon)
  refine bodyPost_ret (by simp [results, Tryd.results7, go_sem, c1]; rfl) rfl ?_
  refine ⟨ret_winV ?_ ?_ ?_ rfl, ?_⟩
  · simp only [Win.take, if_pos h1, if_pos h2]; simp [Win.set1]
  · simp only [Win.take, if_pos h1, if_pos h2]; simp only [Win.set0, if_pos (show 0 < 64 by omega)]; exact Win.set_or _ 0 (Win.mv0_lt _ _) (by omega)
  · simp only [Win.take, if_pos h1, if_pos h2]; simp [Win.set1]
  · go_grown

set_option maxRecDepth 100000 in
theorem take_b (nx s0 s1 n : Nat) (w : World) (hnx : nx < 18446744073709551616) (hn : n < 18446744073709551616) (hs0 : s0 < 18446744073709551616) (hs1 : s1 < 18446744073709551616) (hc : Win.check nx s0 s1 n = 0)
    (h1 : nx ≤ n) (h2 : 128 ≤ n + 1 - nx) :
    Calls Tryd.prog 7 #[.agg #[.int .u64 nx, .int .u64 s0, .int .u64 s1], .int .u64 n] w fun e w' => e = .returned (.tuple #[winV (Win.take nx s0 s1 n), .int .i64 0]) ∧ Below w.heap.size w w' := by
  have HR := (Win.check_zero hc).1
  have HG := Lib.hid hc
  clear hc
  have d1 : decide (nx ≤ n) = true := decide_eq_true h1
  have d2 : decide ((n : Int) + 1 - nx < 128) = false := decide_eq_false (by omega)
  go_enter Tryd.func7, Tryd.ntmps7
  repeat' (first | go_values | go_skip | go_guarded | go_step | go_upon)
  refine (check_any nx s0 s1 n _ hnx hn hs0 hs1).mono ?_
  rintro e w1 ⟨rfl, hb⟩
  rw [HG.out]; dsimp only
  have B0 := ((IsB.of_new w 26 #[.int .u64 nx, .int .u64 s0, .int .u64 s1] rfl).alloc (.cells #[.int .u64 0, .int .u64 0, .int .u64 0] 26)).belowS hb
  have B1 := (IsB.of_new (g := w.heap.size + 1) (w.alloc (.cells #[.int .u64 nx, .int .u64 s0, .int .u64 s1] 26)) 26 #[.int .u64 0, .int .u64 0, .int .u64 0] (by simp)).belowS hb
  have bw1 : Below w.heap.size w w1 := (((Below.refl _ _).alloc (Nat.le_refl _) _).alloc (by simp) _).trans (hb.mono (by simp; omega))
  have c0 := B0.cell
  have c1 := B1.cell
  have f0 := B0.free
  have f1 := B1.free
  repeat' (first | go_values | go_skip | go_guarded | go_step | go_upon)
  refine bodyPost_ret (by simp [results, Tryd.results7, go_sem, c1]; rfl) rfl ?_
  refine ⟨ret_winV ?_ ?_ ?_ rfl, ?_⟩
  · simp only [Win.take, if_pos h1, if_neg (show ¬ n + 1 - nx < 128 by omega)]; simp [Win.set1]
  · simp only [Win.take, if_pos h1, if_neg (show ¬ n + 1 - nx < 128 by omega)]; simp only [Win.set0, if_pos (show 0 < 64 by omega)]; exact Win.set_or 0 0 (by omega) (by omega)
  · simp only [Win.take, if_pos h1, if_neg (show ¬ n + 1 - nx < 128 by omega)]; simp [Win.set1]
  · go_grown

set_option maxRecDepth 100000 in
theorem take_c (nx s0 s1 n : Nat) (w : World) (hnx : nx < 18446744073709551616) (hn : n < 18446744073709551616) (hs0 : s0 < 18446744073709551616) (hs1 : s1 < 18446744073709551616) (hc : Win.check nx s0 s1 n = 0)
    (h1 : n < nx) (h2 : nx - 1 - n < 64) :
    Calls Tryd.prog 7 #[.agg #[.int .u64 nx, .int .u64 s0, .int .u64 s1], .int .u64 n] w fun e w' => e = .returned (.tuple #[winV (Win.take nx s0 s1 n), .int .i64 0]) ∧ Below w.heap.size w w' := by
  have HR := (Win.check_zero hc).1
  have HG := Lib.hid hc
  clear hc
  have d1 : decide (nx ≤ n) = false := decide_eq_false (by omega)
  have e1 : ((nx : Int) - 1 - n) / 64 = 0 := by omega
  go_enter Tryd.func7, Tryd.ntmps7
  repeat' (first | go_values | go_skip | go_guarded | go_step | go_upon)
  refine (check_any nx s0 s1 n _ hnx hn hs0 hs1).mono ?_
  rintro e w1 ⟨rfl, hb⟩
  rw [HG.out]; dsimp only
  have B0 := ((IsB.of_new w 26 #[.int .u64 nx, .int .u64 s0, .int .u64 s1] rfl).alloc (.cells #[.int .u64 0, .int .u64 0, .int .u64 0] 26)).belowS hb
  have B1 := (IsB.of_new (g := w.heap.size + 1) (w.alloc (.cells #[.int .u64 nx, .int .u64 s0, .int .u64 s1] 26)) 26 #[.int .u64 0, .int .u64 0, .int .u64 0] (by simp)).belowS hb
  have bw1 : Below w.heap.size w w1 := (((Below.refl _ _).alloc (Nat.le_refl _) _).alloc (by simp) _).trans (hb.mono (by simp; omega))
  have c0 := B0.cell
  have c1 := B1.cell
  have f0 := B0.free
  have f1 := B1.free
  repeat' (first | go_values | go_skip | go_guarded | go_step | go_upon)
  refine bodyPost_ret (by simp [results, Tryd.results7, go_sem, c1]; rfl) rfl ?_
  refine ⟨ret_winV ?_ ?_ ?_ rfl, ?_⟩
  · simp only [Win.take]; rw [if_neg (by omega)]
  · simp only [Win.take]; rw [if_neg (by omega)]; rw [Win.wrap_pow _ (Nat.mod_lt _ (by omega))]; simp only [Win.set0, if_pos h2]; rw [Win.set_or _ _ hs0 (Nat.mod_lt _ (by omega)), Nat.mod_eq_of_lt h2]
  · simp only [Win.take]; rw [if_neg (by omega)]; simp [Win.set1, h2]
  · go_grown

set_option maxRecDepth 100000 in
theorem take_d (nx s0 s1 n : Nat) (w : World) (hnx : nx < 18446744073709551616) (hn : n < 18446744073709551616) (hs0 : s0 < 18446744073709551616) (hs1 : s1 < 18446744073709551616) (hc : Win.check nx s0 s1 n = 0)
    (h1 : n < nx) (h2 : 64 ≤ nx - 1 - n) (h3 : nx - 1 - n < 128) :
    Calls Tryd.prog 7 #[.agg #[.int .u64 nx, .int .u64 s0, .int .u64 s1], .int .u64 n] w fun e w' => e = .returned (.tuple #[winV (Win.take nx s0 s1 n), .int .i64 0]) ∧ Below w.heap.size w w' := by
  have HR := (Win.check_zero hc).1
  have HG := Lib.hid hc
  clear hc
  have d1 : decide (nx ≤ n) = false := decide_eq_false (by omega)
  have e1 : ((nx : Int) - 1 - n) / 64 = 1 := by omega
  go_enter Tryd.func7, Tryd.ntmps7
  repeat' (first | go_values | go_skip | go_guarded | go_step | go_upon)
  refine (check_any nx s0 s1 n _ hnx hn hs0 hs1).mono ?_
  rintro e w1 ⟨rfl, hb⟩
  rw [HG.out]; dsimp only
  have B0 := ((IsB.of_new w 26 #[.int .u64 nx, .int .u64 s0, .int .u64 s1] rfl).alloc (.cells #[.int .u64 0, .int .u64 0, .int .u64 0] 26)).belowS hb
  have B1 := (IsB.of_new (g := w.heap.size + 1) (w.alloc (.cells #[.int .u64 nx, .int .u64 s0, .int .u64 s1] 26)) 26 #[.int .u64 0, .int .u64 0, .int .u64 0] (by simp)).belowS hb
  have bw1 : Below w.heap.size w w1 := (((Below.refl _ _).alloc (Nat.le_refl _) _).alloc (by simp) _).trans (hb.mono (by simp; omega))
  have c0 := B0.cell
  have c1 := B1.cell
  have f0 := B0.free
  have f1 := B1.free
  repeat' (first | go_values | go_skip | go_guarded | go_step | go_upon)
  refine bodyPost_ret (by simp [results, Tryd.results7, go_sem, c1]; rfl) rfl ?_
  refine ⟨ret_winV ?_ ?_ ?_ rfl, ?_⟩
  · simp only [Win.take]; rw [if_neg (by omega)]
  · simp only [Win.take]; rw [if_neg (by omega)]; simp [Win.set0, show ¬ nx - 1 - n < 64 by omega]
  · simp only [Win.take]; rw [if_neg (by omega)]; rw [Win.wrap_pow _ (Nat.mod_lt _ (by omega))]; simp only [Win.set1, if_neg (show ¬ nx - 1 - n < 64 by omega)]; rw [Win.set_or _ _ hs1 (Nat.mod_lt _ (by omega)), show (nx - 1 - n) % 64 = nx - 1 - n - 64 by omega]
  · go_grown

/-- TAKE, whole: it refuses and leaves the window, or takes the number. -/
theorem take_any (nx s0 s1 n : Nat) (w : World) (hnx : nx < 18446744073709551616) (hn : n < 18446744073709551616) (hs0 : s0 < 18446744073709551616) (hs1 : s1 < 18446744073709551616) :
    Calls Tryd.prog 7 #[winV (nx, s0, s1), .int .u64 n] w fun e w' => e = .returned (.tuple #[winV (if Win.check nx s0 s1 n = 0 then Win.take nx s0 s1 n else (nx, s0, s1)), .int .i64 (Win.check nx s0 s1 n)]) ∧ Below w.heap.size w w' := by
  by_cases hc : Win.check nx s0 s1 n = 0
  · rw [if_pos hc, hc]
    by_cases h1 : nx ≤ n
    · by_cases h2 : n + 1 - nx < 128
      · exact take_a nx s0 s1 n w hnx hn hs0 hs1 hc h1 h2
      · exact take_b nx s0 s1 n w hnx hn hs0 hs1 hc h1 (by omega)
    · have h3 := (Win.check_zero hc).2.2 (by omega)
      by_cases h2 : nx - 1 - n < 64
      · exact take_c nx s0 s1 n w hnx hn hs0 hs1 hc (by omega) h2
      · exact take_d nx s0 s1 n w hnx hn hs0 hs1 hc (by omega) (by omega) h3
  · rw [if_neg hc]
    exact take_no nx s0 s1 n w hnx hn hs0 hs1 hc

end Go.Proofs.YtfljebipoajfpaaDoor
