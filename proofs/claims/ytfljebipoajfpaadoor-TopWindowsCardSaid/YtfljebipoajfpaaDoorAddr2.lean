/- Addresses: Right, Bit: what each computes of an address that may be. -/
import Derived.Test.YtfljebipoajfpaaDoorAddr
import Derived.Test.YtfljebipoajfpaaDoorShelf
namespace Go.Proofs.YtfljebipoajfpaaDoor
open Go.RowKit

/-- An address that may be: of IPv4 all but the first four bytes are 0; each byte is one. -/
structure Rt (six : Bool) (f : Nat → Nat) : Prop where
  byte : ∀ i, i < 16 → f i < 256
  zero : six = false → ∀ i, 4 ≤ i → i < 16 → f i = 0

theorem mk12 (w : World) : (Instr.makeSlice 55 (.int .i64 12) (.int .i64 12)).run Tryd.prog w = .ok (.slice (some ⟨w.heap.size, 0, none⟩) 12 12) (w.alloc (.cells #[.int .u8 0, .int .u8 0, .int .u8 0, .int .u8 0, .int .u8 0, .int .u8 0, .int .u8 0, .int .u8 0, .int .u8 0, .int .u8 0, .int .u8 0, .int .u8 0] 5)) := by kernel_rfl

theorem cells12 {w : World} {g o : Nat} {t : TypeId} {cs : Array Value} (h : IsB w g t cs) (x0 x1 x2 x3 x4 x5 x6 x7 x8 x9 x10 x11 : Int)
    (e : ∀ i, i < 12 → cs[o + i]? = some (.int .u8 ([x0, x1, x2, x3, x4, x5, x6, x7, x8, x9, x10, x11].getD i 0))) :
    Lib.BytesIn w (some ⟨g, o, none⟩) 12 [x0, x1, x2, x3, x4, x5, x6, x7, x8, x9, x10, x11] :=
  Lib.BytesIn.of_cells fun i hi => by rw [Addr.add_mid, h.cell]; exact e i (by simpa using hi)

set_option maxHeartbeats 400000 in
set_option maxRecDepth 100000 in
theorem right_any (six : Bool) (f : Nat → Nat) (w : World) (hr : Rt six f) : Calls Tryd.prog 32 #[.agg (adr six f)] w fun e w' => e = .returned (.bool true) ∧ Below w.heap.size w w' := by
  cases six
  · have z := hr.zero rfl
    have hmk := mk12
    go_enter Tryd.func32, Tryd.ntmps32
    repeat' (first | go_values | go_skip | go_guarded | go_step | go_upon)
    go_region_with (go_at_call 49; refine (Tryd.bytes_Equal_all _ _ 12 _ 12 _ [f 4, f 5, f 6, f 7, f 8, f 9, f 10, f 11, f 12, f 13, f 14, f 15] [0, 0, 0, 0, 0, 0, 0, 0, 0, 0, 0, 0] _ rfl rfl (cells12 (((IsB.of_new w _ _ rfl).alloc _).drew) _ _ _ _ _ _ _ _ _ _ _ _ (by intro i hi; rcases (by omega : i = 0 ∨ i = 1 ∨ i = 2 ∨ i = 3 ∨ i = 4 ∨ i = 5 ∨ i = 6 ∨ i = 7 ∨ i = 8 ∨ i = 9 ∨ i = 10 ∨ i = 11) with rfl | rfl | rfl | rfl | rfl | rfl | rfl | rfl | rfl | rfl | rfl | rfl <;> rfl)) (cells12 (IsB.of_new (w.alloc (.cells (adr false f) _)) _ _ (by simp)).drew _ _ _ _ _ _ _ _ _ _ _ _ (by intro i hi; rcases (by omega : i = 0 ∨ i = 1 ∨ i = 2 ∨ i = 3 ∨ i = 4 ∨ i = 5 ∨ i = 6 ∨ i = 7 ∨ i = 8 ∨ i = 9 ∨ i = 10 ∨ i = 11) with rfl | rfl | rfl | rfl | rfl | rfl | rfl | rfl | rfl | rfl | rfl | rfl <;> rfl))).mono ?_; rintro e w1 ⟨rfl, rfl⟩)
    repeat' (first | go_values | go_skip | go_guarded | go_step | go_upon)
    go_ret
    refine ⟨ret_bool ?_, by go_grown⟩
    simp [z 4, z 5, z 6, z 7, z 8, z 9, z 10, z 11, z 12, z 13, z 14, z 15]
  · go_enter Tryd.func32, Tryd.ntmps32
    repeat' (first | go_values | go_skip | go_guarded | go_step | go_upon)
    go_quiet (fail)
    repeat' (first | go_values | go_skip | go_guarded | go_step | go_upon)
    go_ret
    exact ⟨rfl, by first | exact below_drewN ((Below.refl _ _).alloc (Nat.le_refl _) _) _ | go_grown⟩

def digits (six : Bool) : Nat := if six then 128 else 32
/-- The digit at a place. -/
def bitF (f : Nat → Nat) (n : Nat) : Nat := f (n / 8) / 2 ^ (7 - n % 8) % 2

theorem bit_eq (x k : Nat) (hx : x < 256) : wrap64 (bits BinOp.and IntKind.u8 ((x : Int) / 2 ^ k) 1) = ((x / 2 ^ k % 2 : Nat) : Int) := by
  have e : (x : Int) / 2 ^ k = ((x / 2 ^ k : Nat) : Int) := by simp
  have hlt : x / 2 ^ k < 256 := Nat.lt_of_le_of_lt (Nat.div_le_self _ _) hx
  rw [e, show (1 : Int) = ((1 : Nat) : Int) from rfl, u8_and_nat _ _ hlt (by omega), nat_mask1]
  unfold wrap64; omega

set_option maxHeartbeats 1000000 in
set_option maxRecDepth 100000 in
theorem bit_any (six : Bool) (f : Nat → Nat) (n : Nat) (w : World) (hr : Rt six f) (hn : n ≤ digits six) :
    Calls Tryd.prog 47 #[.agg (adr six f), .int .i64 n] w fun e w' => e = .returned (.int .i64 (if n < digits six then (bitF f n : Int) else -1)) ∧ Below w.heap.size w w' := by
  have hd : digits six = 128 ∨ digits six = 32 := by unfold digits; cases six <;> simp
  have hdd : (if six then (128 : Int) else 32) = ((digits six : Nat) : Int) := by unfold digits; cases six <;> rfl
  have HD := Lib.hid hdd
  have d0 : decide ((n : Int) < 0) = false := decide_eq_false (by omega)
  clear hdd
  by_cases hlt : n < digits six
  · have d1 : decide (digits six ≤ n) = false := decide_eq_false (by omega)
    have hx := adr_at six f (n / 8) (by omega)
    have hbyte := hr.byte (n / 8) (by omega)
    go_enter Tryd.func47, Tryd.ntmps47
    go_wp2_with (refine ld_addr (.tmp 2) (IsB.of_new w _ _ rfl) (by rfl) (by rfl) (by rfl) ?_)
    refine (right_any six f _ hr).mono ?_
    rintro e w1 ⟨rfl, hb⟩
    dsimp only
    have B1 := (IsB.of_new w 44 (adr six f) rfl).belowS hb
    go_wp2_with (refine ld_addrG (.tmp 2) B1 (by rfl) (by rfl) (by rfl) ?_)
    refine (digits_any six f _).mono ?_
    rintro e w2 ⟨rfl, hb2⟩
    rw [HD.out]
    dsimp only
    have B2 := B1.belowS hb2
    have c2 := B2.cell (1 + n / 8)
    rw [hx] at c2
    clear hx
    repeat' (first | go_values | go_skip | go_guarded | go_step | go_upon)
    go_ret
    refine ⟨ret_i64 ?_, (((Below.refl _ _).alloc (Nat.le_refl _) _).trans (hb.mono (by simp))).trans (hb2.mono (by have := hb.size; simp at this; omega))⟩
    rw [if_pos hlt, bit_eq _ _ hbyte]; rfl
  · have d1 : decide (digits six ≤ n) = true := decide_eq_true (by omega)
    go_enter Tryd.func47, Tryd.ntmps47
    go_wp2_with (refine ld_addr (.tmp 2) (IsB.of_new w _ _ rfl) (by rfl) (by rfl) (by rfl) ?_)
    refine (right_any six f _ hr).mono ?_
    rintro e w1 ⟨rfl, hb⟩
    dsimp only
    have B1 := (IsB.of_new w 44 (adr six f) rfl).belowS hb
    go_wp2_with (refine ld_addrG (.tmp 2) B1 (by rfl) (by rfl) (by rfl) ?_)
    refine (digits_any six f _).mono ?_
    rintro e w2 ⟨rfl, hb2⟩
    rw [HD.out]
    dsimp only
    repeat' (first | go_values | go_skip | go_guarded | go_step | go_upon)
    go_ret
    refine ⟨ret_i64 ?_, (((Below.refl _ _).alloc (Nat.le_refl _) _).trans (hb.mono (by simp))).trans (hb2.mono (by have := hb.size; simp at this; omega))⟩
    rw [if_neg hlt]
end Go.Proofs.YtfljebipoajfpaaDoor
