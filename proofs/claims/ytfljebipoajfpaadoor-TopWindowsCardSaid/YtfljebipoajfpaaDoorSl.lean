/- slices.Contains and slices.Index over a list of uint64 in memory; the window's Next. -/
import Derived.Test.YtfljebipoajfpaaDoorTake
namespace Go.Proofs.YtfljebipoajfpaaDoor
open Go.RowKit

/-- A slice value that shows a list of uint64. -/
def Sl (w : World) (v : Value) (l : List Nat) : Prop :=
  (v = .slice none 0 0 ∧ l = []) ∨ ∃ g cap : Nat, v = .slice (some ⟨g, 0, none⟩) l.length cap ∧ l.length ≤ 9223372036854775807 ∧ ∀ j (h : j < l.length), w.cell? ⟨g, j, none⟩ = some (.int .u64 (l[j] : Nat))

theorem index_some (g cap : Nat) (l : List Nat) (x : Nat) (w : World) (hl : l.length ≤ 9223372036854775807) (hx : x < 18446744073709551616) (hc : ∀ j (h : j < l.length), w.cell? ⟨g, j, none⟩ = some (.int .u64 (l[j] : Nat))) :
    Calls Tryd.prog 22 #[.slice (some ⟨g, 0, none⟩) l.length cap, .int .u64 x] w fun e w' => (∃ i : Int, e = .returned (.int .i64 i) ∧ decide (0 ≤ i) = decide (x ∈ l)) ∧ Below w.heap.size w w' := by
  have HX := Lib.hid hx
  clear hx
  have HC := Lib.hid hc
  clear hc
  go_enter Tryd.func22, Tryd.ntmps22
  repeat' (first | go_values | go_skip | go_guarded | go_step | go_upon)
  go_loop [8] (fun i => ∃ k : Nat, k ≤ l.length ∧ i = .int .i64 k ∧ Hid (∀ j (h : j < l.length), j < k → l[j] ≠ x)) (fun i => l.length - (intOf i).toNat)
  case atStart => exact ⟨0, by omega, rfl, fun j _ h => absurd h (by omega)⟩
  case round =>
    obtain ⟨k, hk, rfl, HD⟩ := hrel
    by_cases hlt : k < l.length
    · have ck : w.cell? ⟨g, k, none⟩ = some (.int .u64 (l[k] : Nat)) := HC.out k hlt
      by_cases h1 : x = l[k]
      · have d1 : ((x : Int) == (l[k] : Nat)) = true := beq_iff_eq.mpr (congrArg Int.ofNat h1)
        have HM := Lib.hid (show x ∈ l by rw [h1]; exact List.getElem_mem hlt)
        clear h1
        repeat' (first | go_values | go_skip | go_guarded | go_step | go_upon)
        go_ret
        refine ⟨⟨k, rfl, ?_⟩, by go_grown⟩
        simp [HM.out]
      · have d1 : ((x : Int) == (l[k] : Nat)) = false := beq_eq_false_iff_ne.mpr fun e => h1 (Int.ofNat.inj e)
        have H1 := Lib.hid h1
        clear h1
        repeat' (first | go_values | go_skip | go_guarded | go_step | go_upon)
        exact ⟨⟨k + 1, by omega, by go_num, fun j h hj => by by_cases e : j = k; (subst e; exact fun e => H1.out e.symm); exact HD.out j h (by omega)⟩, by simp [intOf]; omega⟩
    · have d0 : decide (k < l.length) = false := decide_eq_false hlt
      repeat' (first | go_values | go_skip | go_guarded | go_step | go_upon)
      go_ret
      refine ⟨⟨-1, rfl, ?_⟩, by go_grown⟩
      have : ¬ x ∈ l := by
        intro hm
        obtain ⟨j, hj, e⟩ := List.getElem_of_mem hm
        exact HD.out j hj (by omega) e
      simp [this]

theorem index_none (x : Nat) (w : World) :
    Calls Tryd.prog 22 #[.slice none 0 0, .int .u64 x] w fun e w' => (∃ i : Int, e = .returned (.int .i64 i) ∧ decide (0 ≤ i) = false) ∧ Below w.heap.size w w' := by
  go_enter Tryd.func22, Tryd.ntmps22
  repeat' (first | go_values | go_skip | go_guarded | go_step | go_upon)
  refine wp_loop_rounds 1 ?_
  rw [rounds_succ]
  repeat' (first | go_values | go_skip | go_guarded | go_step | go_upon)
  go_ret
  exact ⟨⟨-1, rfl, rfl⟩, by go_grown⟩

theorem index_any (v : Value) (l : List Nat) (x : Nat) (w : World) (hx : x < 18446744073709551616) (h : Sl w v l) :
    Calls Tryd.prog 22 #[v, .int .u64 x] w fun e w' => (∃ i : Int, e = .returned (.int .i64 i) ∧ decide (0 ≤ i) = decide (x ∈ l)) ∧ Below w.heap.size w w' := by
  rcases h with ⟨rfl, rfl⟩ | ⟨g, cap, rfl, hl, hc⟩
  · refine (index_none x w).mono ?_
    rintro e w' ⟨⟨i, rfl, h⟩, hb⟩
    exact ⟨⟨i, rfl, by simp [h]⟩, hb⟩
  · exact index_some g cap l x w hl hx hc

theorem contains_any (v : Value) (l : List Nat) (x : Nat) (w : World) (hx : x < 18446744073709551616) (h : Sl w v l) :
    Calls Tryd.prog 6 #[v, .int .u64 x] w fun e w' => e = .returned (.bool (decide (x ∈ l))) ∧ Below w.heap.size w w' := by
  have HX := Lib.hid hx
  clear hx
  go_enter Tryd.func6, Tryd.ntmps6
  repeat' (first | go_values | go_skip | go_guarded | go_step | go_upon)
  refine (index_any v l x w HX.out h).mono ?_
  rintro e w1 ⟨⟨i, rfl, hi⟩, hb⟩
  dsimp only
  repeat' (first | go_values | go_skip | go_guarded | go_step | go_upon)
  go_ret
  exact ⟨rfl, hb⟩

theorem next_any (nx s0 s1 : Nat) (w : World) :
    Calls Tryd.prog 9 #[winV (nx, s0, s1)] w fun e w' => e = .returned (.int .u64 nx) ∧ Below w.heap.size w w' := by
  unfold winV
  go_enter Tryd.func9, Tryd.ntmps9
  repeat' (first | go_values | go_skip | go_guarded | go_step | go_upon)
  go_ret
  exact ⟨rfl, by go_grown⟩

end Go.Proofs.YtfljebipoajfpaaDoor
