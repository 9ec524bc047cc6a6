/- The window's functions: Has, Check, move, Take: what each computes, said of natural numbers. -/
import Derived.Test.YtfljebipoajfpaaDoorBase
namespace Go.Proofs.YtfljebipoajfpaaDoor
open Go.RowKit

/-- Does a window (the greatest number and 1, its two rows of digits) know the number n? -/
def Win.has (nx s0 s1 n : Nat) : Bool := n < nx && (nx - 1 - n < 128 && (if nx - 1 - n < 64 then s0.testBit (nx - 1 - n) else s1.testBit (nx - 1 - n - 64)))

theorem Win.bit_eq (s k i : Nat) (hs : s < 18446744073709551616) (hi : i = k) : (bits BinOp.and IntKind.u64 ((s : Int) / 2 ^ i) 1 == 1) = s.testBit k := by
  subst hi
  have e : (s : Int) / 2 ^ i = ((s / 2 ^ i : Nat) : Int) := by simp
  have hlt : s / 2 ^ i < 18446744073709551616 := Nat.lt_of_le_of_lt (Nat.div_le_self _ _) hs
  rw [e, show (1 : Int) = ((1 : Nat) : Int) from rfl, u64_and_nat _ _ hlt (by omega), Nat.testBit, Nat.shiftRight_eq_div_pow, nat_mask1, Nat.one_and_eq_mod_two]
  generalize s / 2 ^ i = q
  have : q % 2 = 0 ∨ q % 2 = 1 := by omega
  rcases this with h | h <;> simp [h]

theorem has_any (nx s0 s1 n : Nat) (w : World) (hnx : nx < 18446744073709551616) (hn : n < 18446744073709551616) (hs0 : s0 < 18446744073709551616) (hs1 : s1 < 18446744073709551616) :
    Calls Tryd.prog 10 #[.agg #[.int .u64 nx, .int .u64 s0, .int .u64 s1], .int .u64 n] w fun e w' => e = .returned (.bool (Win.has nx s0 s1 n)) ∧ Below w.heap.size w w' := by
  by_cases h1 : (nx : Int) ≤ n
  · go_enter Tryd.func10, Tryd.ntmps10
    go_wp2
    go_ret
    exact ⟨ret_bool (by unfold Win.has; simp; omega), by go_grown⟩
  · by_cases h2 : 128 ≤ (nx : Int) - 1 - n
    · go_enter Tryd.func10, Tryd.ntmps10
      go_wp2
      go_ret
      exact ⟨ret_bool (by unfold Win.has; simp; omega), by go_grown⟩
    · by_cases h3 : (nx : Int) - 1 - n < 64
      · have e : ((nx : Int) - 1 - n) / 64 = 0 := by omega
        go_enter Tryd.func10, Tryd.ntmps10
        go_wp2
        go_ret
        refine ⟨ret_bool ?_, by go_grown⟩
        rw [Win.bit_eq _ (nx - 1 - n) _ hs0 (by omega)]
        simp [Win.has, show n < nx by omega, show nx - 1 - n < 128 by omega, show nx - 1 - n < 64 by omega]
      · have e : ((nx : Int) - 1 - n) / 64 = 1 := by omega
        go_enter Tryd.func10, Tryd.ntmps10
        go_wp2
        go_ret
        refine ⟨ret_bool ?_, by go_grown⟩
        rw [Win.bit_eq _ (nx - 1 - n - 64) _ hs1 (by omega)]
        simp [Win.has, show n < nx by omega, show nx - 1 - n < 128 by omega, show ¬ nx - 1 - n < 64 by omega]

def Win.check (nx s0 s1 n : Nat) : Int := if 18446744073709543423 ≤ n then 81 else if Win.has nx s0 s1 n || (decide (n < nx) && decide (128 ≤ nx - 1 - n)) then 80 else 0

set_option maxRecDepth 100000 in
theorem check_any (nx s0 s1 n : Nat) (w : World) (hnx : nx < 18446744073709551616) (hn : n < 18446744073709551616) (hs0 : s0 < 18446744073709551616) (hs1 : s1 < 18446744073709551616) :
    Calls Tryd.prog 8 #[.agg #[.int .u64 nx, .int .u64 s0, .int .u64 s1], .int .u64 n] w fun e w' => e = .returned (.int .i64 (Win.check nx s0 s1 n)) ∧ Below w.heap.size w w' := by
  by_cases h0 : (18446744073709543423 : Int) ≤ n
  · go_enter Tryd.func8, Tryd.ntmps8
    go_wp2_with fail
    go_ret
    exact ⟨ret_i64 (by unfold Win.check; rw [if_pos (by omega)]), by go_grown⟩
  · cases hh : Win.has nx s0 s1 n
    · by_cases h1 : (n : Int) < nx
      · by_cases h2 : 128 ≤ (nx : Int) - 1 - n
        · have HH := Lib.hid hh
          clear hh
          go_enter Tryd.func8, Tryd.ntmps8
          go_wp2_with fail
          refine (has_any nx s0 s1 n _ hnx hn hs0 hs1).mono ?_
          rintro e w1 ⟨rfl, hb⟩
          rw [HH.out]; dsimp only
          have H0 := Lib.hid h0; clear h0
          obtain ⟨hc, hf⟩ := bcell hb
          go_wp2_with fail
          go_ret
          exact ⟨ret_i64 (by unfold Win.check; rw [if_neg (by have := H0.out; omega), HH.out, if_pos (by simp; omega)]), ((Below.refl _ _).alloc (Nat.le_refl _) _).trans (hb.mono (by simp))⟩
        · have d2 : decide (128 ≤ (nx : Int) - 1 - n) = false := decide_eq_false h2
          have HH := Lib.hid hh
          clear hh
          go_enter Tryd.func8, Tryd.ntmps8
          go_wp2_with fail
          refine (has_any nx s0 s1 n _ hnx hn hs0 hs1).mono ?_
          rintro e w1 ⟨rfl, hb⟩
          rw [HH.out]; dsimp only
          have H0 := Lib.hid h0; clear h0
          obtain ⟨hc, hf⟩ := bcell hb
          go_wp2_with fail
          go_ret
          exact ⟨ret_i64 (by unfold Win.check; rw [if_neg (by have := H0.out; omega), HH.out, if_neg (by simp; omega)]), ((Below.refl _ _).alloc (Nat.le_refl _) _).trans (hb.mono (by simp))⟩
      · have d1 : decide (n < nx) = false := decide_eq_false (by omega)
        have HH := Lib.hid hh
        clear hh
        go_enter Tryd.func8, Tryd.ntmps8
        go_wp2_with fail
        refine (has_any nx s0 s1 n _ hnx hn hs0 hs1).mono ?_
        rintro e w1 ⟨rfl, hb⟩
        rw [HH.out]; dsimp only
        have H0 := Lib.hid h0; clear h0
        obtain ⟨hc, hf⟩ := bcell hb
        go_wp2_with fail
        go_ret
        exact ⟨ret_i64 (by unfold Win.check; rw [if_neg (by have := H0.out; omega), HH.out, if_neg (by simp; omega)]), ((Below.refl _ _).alloc (Nat.le_refl _) _).trans (hb.mono (by simp))⟩
    · have HH := Lib.hid hh
      clear hh
      go_enter Tryd.func8, Tryd.ntmps8
      go_wp2_with fail
      refine (has_any nx s0 s1 n _ hnx hn hs0 hs1).mono ?_
      rintro e w1 ⟨rfl, hb⟩
      rw [HH.out]; dsimp only
      have H0 := Lib.hid h0; clear h0
      obtain ⟨hc, hf⟩ := bcell hb
      go_wp2_with fail
      go_ret
      exact ⟨ret_i64 (by unfold Win.check; rw [if_neg (by have := H0.out; omega), HH.out, if_pos (by simp)]), ((Below.refl _ _).alloc (Nat.le_refl _) _).trans (hb.mono (by simp))⟩
def Win.mv0 (s0 b : Nat) : Nat := if b < 64 then s0 * 2 ^ b % 18446744073709551616 else 0
def Win.mv1 (s0 s1 b : Nat) : Nat := if b < 64 then s1 * 2 ^ b % 18446744073709551616 ||| s0 / 2 ^ (64 - b) else s0 * 2 ^ (b - 64) % 18446744073709551616

theorem Win.wrap_shl (s b : Nat) : IntKind.u64.wrap ((s : Int) * 2 ^ b) = ((s * 2 ^ b % 18446744073709551616 : Nat) : Int) := by
  have e : ((s : Int) * 2 ^ b) = ((s * 2 ^ b : Nat) : Int) := by simp
  rw [e, IntKind.wrap_u64]
  omega
theorem Win.div_shr (s b : Nat) : ((s : Int) / 2 ^ b) = ((s / 2 ^ b : Nat) : Int) := by simp
theorem Win.mv0_lt (s0 b : Nat) : Win.mv0 s0 b < 18446744073709551616 := by unfold Win.mv0; split <;> omega
theorem Win.mv1_lt (s0 s1 b : Nat) (hs0 : s0 < 18446744073709551616) : Win.mv1 s0 s1 b < 18446744073709551616 := by
  unfold Win.mv1; split
  · exact Nat.or_lt_two_pow (n := 64) (Nat.mod_lt _ (by omega)) (Nat.lt_of_le_of_lt (Nat.div_le_self _ _) (by omega))
  · omega
theorem ret_win {a b c a' b' c' : Int} (h : a = a') (h1 : b = b') (h2 : c = c') : Ending.returned (.agg #[.int .u64 a, .int .u64 b, .int .u64 c]) = .returned (.agg #[.int .u64 a', .int .u64 b', .int .u64 c']) := by rw [h, h1, h2]

set_option maxRecDepth 100000 in
theorem move_any (nx s0 s1 b : Nat) (w : World) (hnx : nx < 18446744073709551616) (hs0 : s0 < 18446744073709551616) (hs1 : s1 < 18446744073709551616) (hb : b < 128) :
    Calls Tryd.prog 23 #[.agg #[.int .u64 nx, .int .u64 s0, .int .u64 s1], .int .u64 b] w fun e w' => e = .returned (.agg #[.int .u64 nx, .int .u64 (Win.mv0 s0 b : Nat), .int .u64 (Win.mv1 s0 s1 b : Nat)]) ∧ Below w.heap.size w w' := by
  by_cases h64 : b < 64
  · have e1 : (b : Int) / 64 = 0 := by omega
    have e2 : (b : Int) % 64 = b := by omega
    by_cases h0 : 0 < b
    · go_enter Tryd.func23, Tryd.ntmps23
      go_wp2
      refine wp_loop_rounds 3 ?_
      rw [rounds_succ]
      go_wp2
      rw [rounds_succ]
      go_wp2
      go_region
      all_goals go_wp2
      all_goals (rw [rounds_succ]; go_wp2; go_returns)
      refine ⟨ret_win rfl ?_ ?_, by go_grown⟩
      · rw [Win.wrap_shl]; simp [Win.mv0, h64]
      · rw [Win.wrap_shl, Win.div_shr, u64_or_nat _ _ (Nat.mod_lt _ (by omega)) (Nat.lt_of_le_of_lt (Nat.div_le_self _ _) hs0)]
        simp [Win.mv1, h64]
    · obtain rfl : b = 0 := by omega
      clear e1 e2
      go_enter Tryd.func23, Tryd.ntmps23
      go_wp2
      go_rounds 3
      go_returns
      refine ⟨ret_win rfl ?_ ?_, by go_grown⟩
      · simp [Win.mv0, IntKind.wrap_u64]; omega
      · simp [Win.mv1, IntKind.wrap_u64, Nat.div_eq_of_lt hs0]; omega
  · have e1 : (b : Int) / 64 = 1 := by omega
    have e2 : (b : Int) % 64 = b - 64 := by omega
    go_enter Tryd.func23, Tryd.ntmps23
    go_wp2
    go_rounds 3
    go_returns
    refine ⟨ret_win rfl ?_ ?_, by go_grown⟩
    · simp [Win.mv0, h64]
    · rw [Win.wrap_shl]; simp [Win.mv1, h64]

def Win.set0 (a k : Nat) : Nat := if k < 64 then a ||| 2 ^ k else a
def Win.set1 (b k : Nat) : Nat := if k < 64 then b else b ||| 2 ^ (k - 64)
/-- A window behind a number that it takes. -/
def Win.take (nx s0 s1 n : Nat) : Nat × Nat × Nat :=
  if nx ≤ n then
    if n + 1 - nx < 128 then (n + 1, Win.set0 (Win.mv0 s0 (n + 1 - nx)) 0, Win.set1 (Win.mv1 s0 s1 (n + 1 - nx)) 0)
    else (n + 1, Win.set0 0 0, Win.set1 0 0)
  else (nx, Win.set0 s0 (nx - 1 - n), Win.set1 s1 (nx - 1 - n))
def winV (x : Nat × Nat × Nat) : Value := .agg #[.int .u64 x.1, .int .u64 x.2.1, .int .u64 x.2.2]

theorem ret_winV {x : Nat × Nat × Nat} {a b c e e' : Int} (h : a = x.1) (h1 : b = x.2.1) (h2 : c = x.2.2) (h3 : e = e') : Ending.returned (.tuple #[.agg #[.int .u64 a, .int .u64 b, .int .u64 c], .int .i64 e]) = .returned (.tuple #[winV x, .int .i64 e']) := by
  rw [h, h1, h2, h3]; rfl

end Go.Proofs.YtfljebipoajfpaaDoor
