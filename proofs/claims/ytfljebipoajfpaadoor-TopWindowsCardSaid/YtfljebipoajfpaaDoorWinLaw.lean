/- The plain law of the window: what it knows, against a list of the numbers that it has taken. -/
import Derived.Test.YtfljebipoajfpaaDoorSl
namespace Go.Proofs.YtfljebipoajfpaaDoor
open Go.RowKit

def wbit (s0 s1 d : Nat) : Bool := if d < 64 then s0.testBit d else s1.testBit (d - 64)
theorem Win.has_eq (nx s0 s1 n : Nat) : Win.has nx s0 s1 n = (decide (n < nx) && (decide (nx - 1 - n < 128) && wbit s0 s1 (nx - 1 - n))) := rfl

theorem bit_mod (x i : Nat) (h : i < 64) : (x % 18446744073709551616).testBit i = x.testBit i := by
  rw [show (18446744073709551616 : Nat) = 2 ^ 64 from rfl, Nat.testBit_mod_two_pow]; simp [h]
theorem bit_high (x i : Nat) (hx : x < 18446744073709551616) (h : 64 ≤ i) : x.testBit i = false :=
  Nat.testBit_lt_two_pow (Nat.lt_of_lt_of_le hx (show 2 ^ 64 ≤ 2 ^ i from Nat.pow_le_pow_right (by omega) h))

theorem wbit_mv (s0 s1 b d : Nat) (hs0 : s0 < 18446744073709551616) (hb : b < 128) (hd : d < 128) :
    wbit (Win.mv0 s0 b) (Win.mv1 s0 s1 b) d = (decide (b ≤ d) && wbit s0 s1 (d - b)) := by
  unfold wbit Win.mv0 Win.mv1
  by_cases h1 : d < 64
  · by_cases h2 : b < 64
    · simp only [if_pos h1, if_pos h2, bit_mod _ _ h1, Nat.testBit_mul_two_pow]
      rw [if_pos (by omega)]
    · simp only [if_pos h1, if_neg h2]
      rw [Nat.zero_testBit, decide_eq_false (by omega), Bool.false_and]
  · by_cases h2 : b < 64
    · simp only [if_neg h1, if_pos h2, Nat.testBit_or, bit_mod _ _ (show d - 64 < 64 by omega), Nat.testBit_mul_two_pow, Nat.testBit_div_two_pow]
      by_cases h3 : d - b < 64
      · rw [if_pos h3, decide_eq_false (show ¬ b ≤ d - 64 by omega), decide_eq_true (show b ≤ d by omega), show d - 64 + (64 - b) = d - b by omega]; simp
      · rw [if_neg h3, decide_eq_true (show b ≤ d - 64 by omega), decide_eq_true (show b ≤ d by omega), bit_high s0 _ hs0 (by omega), show d - 64 - b = d - b - 64 by omega]; simp
    · simp only [if_neg h1, if_neg h2, bit_mod _ _ (show d - 64 < 64 by omega), Nat.testBit_mul_two_pow]
      rw [if_pos (by omega), show d - 64 - (b - 64) = d - b by omega]
      congr 1
      exact decide_eq_decide.2 (by omega)

theorem wbit_set (s0 s1 k d : Nat) (hk : k < 128) (hd : d < 128) : wbit (Win.set0 s0 k) (Win.set1 s1 k) d = (decide (k = d) || wbit s0 s1 d) := by
  unfold wbit Win.set0 Win.set1
  by_cases h1 : d < 64 <;> by_cases h2 : k < 64
  · simp only [if_pos h1, if_pos h2, Nat.testBit_or, Nat.testBit_two_pow, Bool.or_comm]
  · simp only [if_pos h1, if_neg h2]
    rw [decide_eq_false (by omega), Bool.false_or]
  · simp only [if_neg h1, if_pos h2]
    rw [decide_eq_false (by omega), Bool.false_or]
  · simp only [if_neg h1, if_neg h2, Nat.testBit_or, Nat.testBit_two_pow, Bool.or_comm]
    congr 1
    exact decide_eq_decide.2 (by omega)

theorem set0_lt (s k : Nat) (hs : s < 18446744073709551616) : Win.set0 s k < 18446744073709551616 := by
  unfold Win.set0; split
  · exact Nat.or_lt_two_pow (n := 64) hs (Nat.pow_lt_pow_right (by omega) (by omega))
  · exact hs
theorem set1_lt (s k : Nat) (hs : s < 18446744073709551616) (hk : k < 128) : Win.set1 s k < 18446744073709551616 := by
  unfold Win.set1; split
  · exact hs
  · exact Nat.or_lt_two_pow (n := 64) hs (Nat.pow_lt_pow_right (by omega) (by omega))

/-- The window has seen just the numbers of the list, as far as it reaches. -/
structure Seen (al : List Nat) (most nx s0 s1 : Nat) : Prop where
  lt : ∀ n ∈ al, n < 18446744073709543423
  le : ∀ n ∈ al, n ≤ most
  most_lt : most < 18446744073709543423
  none0 : al = [] → most = 0
  nx_eq : nx = if al = [] then 0 else most + 1
  s0_lt : s0 < 18446744073709551616
  s1_lt : s1 < 18446744073709551616
  has : ∀ n, Win.has nx s0 s1 n = (decide (n ∈ al) && decide (most - n < 128))

theorem Seen.start : Seen [] 0 0 0 0 :=
  ⟨fun _ h => by simp at h, fun _ h => by simp at h, by omega, fun _ => rfl, rfl, by omega, by omega, fun n => by simp [Win.has]⟩

theorem Seen.nx_lt {al : List Nat} {most nx s0 s1 : Nat} (h : Seen al most nx s0 s1) : nx < 18446744073709551616 := by
  rw [h.nx_eq]; have := h.most_lt; split <;> omega

theorem Seen.check {al : List Nat} {most nx s0 s1 : Nat} (h : Seen al most nx s0 s1) (n : Nat) :
    Win.check nx s0 s1 n = if 18446744073709543423 ≤ n then 81 else if decide (n ∈ al) || (!al.isEmpty && (decide (n < most) && decide (128 ≤ most - n))) then 80 else 0 := by
  unfold Win.check
  by_cases h0 : 18446744073709543423 ≤ n
  · rw [if_pos h0, if_pos h0]
  · rw [if_neg h0, if_neg h0]
    congr 1
    rw [h.has, h.nx_eq]
    by_cases he : al = []
    · subst he; simp
    · rw [if_neg he]
      have hle := h.le n
      by_cases hm : n ∈ al
      · have := hle hm
        by_cases h1 : most - n < 128 <;> simp [hm, he, h1] <;> omega
      · simp only [hm, decide_false, Bool.false_and, Bool.false_or]
        rw [show al.isEmpty = false by simpa using he]
        simp only [Bool.not_false, Bool.true_and, Bool.or_false]
        rw [← Bool.decide_and, ← Bool.decide_and]
        exact congrArg (· = true) (decide_eq_decide.2 (by omega))

theorem Seen.take {al : List Nat} {most nx s0 s1 : Nat} (h : Seen al most nx s0 s1) {n : Nat} (hc : Win.check nx s0 s1 n = 0) :
    Seen (al ++ [n]) (max most n) (Win.take nx s0 s1 n).1 (Win.take nx s0 s1 n).2.1 (Win.take nx s0 s1 n).2.2 := by
  obtain ⟨hr, hh, hlow⟩ := Win.check_zero hc
  have hin : ∀ m, m ∈ al ++ [n] ↔ m ∈ al ∨ m = n := fun m => by simp
  have hne : ¬ al ++ [n] = [] := by simp
  have hlt : ∀ m ∈ al ++ [n], m < 18446744073709543423 := fun m hm => ((hin m).1 hm).elim (h.lt m) (fun e => e ▸ hr)
  have hle : ∀ m ∈ al ++ [n], m ≤ max most n := fun m hm => ((hin m).1 hm).elim (fun q => Nat.le_trans (h.le m q) (Nat.le_max_left ..)) (fun e => e ▸ Nat.le_max_right ..)
  have hmost : max most n < 18446744073709543423 := Nat.max_lt.2 ⟨h.most_lt, hr⟩
  have hnxl := h.nx_lt
  unfold Win.take
  by_cases h1 : nx ≤ n
  · -- a new greatest number
    have hmx : max most n = n := by
      apply Nat.max_eq_right
      have := h.nx_eq
      by_cases he : al = []
      · have := h.none0 he; omega
      · rw [if_neg he] at this; omega
    have hall : ∀ m ∈ al, m < nx ∧ nx - 1 - m = most - m := fun m hm => by
      have h2 := h.nx_eq; rw [if_neg (fun e => by rw [e] at hm; simp at hm)] at h2
      have := h.le m hm
      omega
    rw [if_pos h1]
    by_cases h2 : n + 1 - nx < 128
    · rw [if_pos h2]
      refine ⟨hlt, hle, hmost, fun e => absurd e hne, by rw [if_neg hne, hmx], set0_lt (Win.mv0 s0 (n + 1 - nx)) 0 (Win.mv0_lt _ _), set1_lt (Win.mv1 s0 s1 (n + 1 - nx)) 0 (Win.mv1_lt _ _ _ h.s0_lt) (by omega), fun m => ?_⟩
      rw [Win.has_eq, hmx]
      show (decide (m < n + 1) && (decide (n + 1 - 1 - m < 128) && wbit (Win.set0 (Win.mv0 s0 (n + 1 - nx)) 0) (Win.set1 (Win.mv1 s0 s1 (n + 1 - nx)) 0) (n + 1 - 1 - m))) = _
      by_cases h3 : m < n + 1
      · by_cases h4 : n - m < 128
        · rw [show n + 1 - 1 - m = n - m by omega, wbit_set _ _ _ _ (by omega) h4, wbit_mv _ _ _ _ h.s0_lt h2 h4]
          rw [decide_eq_true h3, decide_eq_true h4, Bool.true_and, Bool.true_and, Bool.and_true]
          by_cases h5 : m = n
          · subst h5
            rw [decide_eq_true (show 0 = m - m by omega), Bool.true_or]; symm; simp
          · rw [decide_eq_false (show ¬ 0 = n - m by omega), Bool.false_or]
            have hhas := h.has m
            rw [Win.has_eq] at hhas
            by_cases h6 : m < nx
            · rw [show n - m - (n + 1 - nx) = nx - 1 - m by omega, decide_eq_true (show n + 1 - nx ≤ n - m by omega), Bool.true_and]
              rw [decide_eq_true h6, decide_eq_true (show nx - 1 - m < 128 by omega), Bool.true_and, Bool.true_and] at hhas
              rw [hhas]
              by_cases h7 : m ∈ al
              · have := hall m h7
                rw [decide_eq_true h7, decide_eq_true (show most - m < 128 by omega)]; symm; simp [h7]
              · rw [decide_eq_false h7, Bool.false_and]; symm; simp [h7, h5]
            · rw [decide_eq_false (show ¬ n + 1 - nx ≤ n - m by omega), Bool.false_and]
              symm; simp [h5]
              intro h7; have := hall m h7; omega
        · rw [decide_eq_false (show ¬ n + 1 - 1 - m < 128 by omega), decide_eq_false h4, Bool.false_and, Bool.and_false, Bool.and_false]
      · rw [decide_eq_false h3, Bool.false_and]
        symm
        rw [decide_eq_false (fun q => by have := hle m q; omega), Bool.false_and]
    · rw [if_neg h2]
      refine ⟨hlt, hle, hmost, fun e => absurd e hne, by rw [if_neg hne, hmx], set0_lt 0 0 (by omega), set1_lt 0 0 (by omega) (by omega), fun m => ?_⟩
      rw [Win.has_eq, hmx]
      show (decide (m < n + 1) && (decide (n + 1 - 1 - m < 128) && wbit (Win.set0 0 0) (Win.set1 0 0) (n + 1 - 1 - m))) = _
      by_cases h3 : m < n + 1
      · by_cases h4 : n - m < 128
        · rw [show n + 1 - 1 - m = n - m by omega, wbit_set _ _ _ _ (by omega) h4]
          rw [decide_eq_true h3, decide_eq_true h4, Bool.true_and, Bool.true_and, Bool.and_true]
          have hz : wbit 0 0 (n - m) = false := by unfold wbit; split <;> exact Nat.zero_testBit _
          rw [hz, Bool.or_false]
          refine decide_eq_decide.2 ?_
          rw [hin]
          constructor
          · intro q; exact Or.inr (by omega)
          · rintro (q | q)
            · have := hall m q; omega
            · omega
        · rw [decide_eq_false (show ¬ n + 1 - 1 - m < 128 by omega), decide_eq_false h4, Bool.false_and, Bool.and_false, Bool.and_false]
      · rw [decide_eq_false h3, Bool.false_and]
        symm
        rw [decide_eq_false (fun q => by have := hle m q; omega), Bool.false_and]
  · rw [if_neg h1]
    have he : al ≠ [] := fun e => by have h2 := h.nx_eq; rw [if_pos e] at h2; omega
    have hnx := h.nx_eq
    rw [if_neg he] at hnx
    have hmx : max most n = most := Nat.max_eq_left (by omega)
    have hl := hlow (by omega)
    refine ⟨hlt, hle, hmost, fun e => absurd e hne, by rw [if_neg hne, hmx]; exact hnx, set0_lt s0 (nx - 1 - n) h.s0_lt, set1_lt s1 (nx - 1 - n) h.s1_lt (by omega), fun m => ?_⟩
    have hhas := h.has m
    rw [Win.has_eq] at hhas ⊢
    rw [hmx]
    show (decide (m < nx) && (decide (nx - 1 - m < 128) && wbit (Win.set0 s0 (nx - 1 - n)) (Win.set1 s1 (nx - 1 - n)) (nx - 1 - m))) = _
    by_cases h3 : m < nx
    · by_cases h4 : nx - 1 - m < 128
      · rw [wbit_set _ _ _ _ (by omega) h4, decide_eq_true h3, decide_eq_true h4, Bool.true_and, Bool.true_and]
        rw [decide_eq_true h3, decide_eq_true h4, Bool.true_and, Bool.true_and, decide_eq_true (show most - m < 128 by omega), Bool.and_true] at hhas
        rw [hhas, decide_eq_true (show most - m < 128 by omega), Bool.and_true, ← Bool.decide_or]
        refine decide_eq_decide.2 ?_
        rw [hin]
        constructor
        · rintro (q | q)
          · exact Or.inr (by omega)
          · exact Or.inl q
        · rintro (q | q)
          · exact Or.inr q
          · exact Or.inl (by omega)
      · rw [decide_eq_false h4, Bool.false_and, Bool.and_false, decide_eq_false (show ¬ most - m < 128 by omega), Bool.and_false]
    · rw [decide_eq_false h3, Bool.false_and]
      symm
      rw [decide_eq_false (fun q => by have := hle m q; omega), Bool.false_and]

end Go.Proofs.YtfljebipoajfpaaDoor
