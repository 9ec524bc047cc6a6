/- Addresses: digits, cut, Bit: what each computes. -/
import Derived.Test.YtfljebipoajfpaaDoorBase
namespace Go.Proofs.YtfljebipoajfpaaDoor
open Go.RowKit

/-- An address' seventeen cells: is it of IPv6, and its sixteen bytes. -/
abbrev adr (six : Bool) (f : Nat → Nat) : Array Value := #[.bool six, .int .u8 (f 0), .int .u8 (f 1), .int .u8 (f 2), .int .u8 (f 3), .int .u8 (f 4), .int .u8 (f 5), .int .u8 (f 6), .int .u8 (f 7), .int .u8 (f 8), .int .u8 (f 9), .int .u8 (f 10), .int .u8 (f 11), .int .u8 (f 12), .int .u8 (f 13), .int .u8 (f 14), .int .u8 (f 15)]

theorem adr_at (six : Bool) (f : Nat → Nat) (i : Nat) (h : i < 16) : (adr six f)[1 + i]? = some (.int .u8 (f i)) := by
  rcases (by omega : i = 0 ∨ i = 1 ∨ i = 2 ∨ i = 3 ∨ i = 4 ∨ i = 5 ∨ i = 6 ∨ i = 7 ∨ i = 8 ∨ i = 9 ∨ i = 10 ∨ i = 11 ∨ i = 12 ∨ i = 13 ∨ i = 14 ∨ i = 15) with rfl | rfl | rfl | rfl | rfl | rfl | rfl | rfl | rfl | rfl | rfl | rfl | rfl | rfl | rfl | rfl <;> rfl
/-- One place of a function turned. -/
def upd (f : Nat → Nat) (i v : Nat) : Nat → Nat := fun j => if j = i then v else f j
theorem adr_set (six : Bool) (f : Nat → Nat) (i v : Nat) (h : i < 16) : (adr six f).setIfInBounds (1 + i) (.int .u8 v) = adr six (upd f i v) := by
  rcases (by omega : i = 0 ∨ i = 1 ∨ i = 2 ∨ i = 3 ∨ i = 4 ∨ i = 5 ∨ i = 6 ∨ i = 7 ∨ i = 8 ∨ i = 9 ∨ i = 10 ∨ i = 11 ∨ i = 12 ∨ i = 13 ∨ i = 14 ∨ i = 15) with rfl | rfl | rfl | rfl | rfl | rfl | rfl | rfl | rfl | rfl | rfl | rfl | rfl | rfl | rfl | rfl <;> rfl
theorem adr_ext {six : Bool} {f g : Nat → Nat} (h : ∀ i, i < 16 → f i = g i) : adr six f = adr six g := by
  simp only [adr, h 0 (by omega), h 1 (by omega), h 2 (by omega), h 3 (by omega), h 4 (by omega), h 5 (by omega), h 6 (by omega), h 7 (by omega), h 8 (by omega), h 9 (by omega), h 10 (by omega), h 11 (by omega), h 12 (by omega), h 13 (by omega), h 14 (by omega), h 15 (by omega)]

theorem digits_any (six : Bool) (f : Nat → Nat) (w : World) :
    Calls Tryd.prog 38 #[.agg (adr six f)] w fun e w' => e = .returned (.int .i64 (if six then 128 else 32)) ∧ Below w.heap.size w w' := by
  cases six
  · go_enter Tryd.func38, Tryd.ntmps38
    repeat' (first | go_values | go_skip | go_guarded | go_step | go_upon)
    go_ret
    exact ⟨rfl, by go_grown⟩
  · go_enter Tryd.func38, Tryd.ntmps38
    repeat' (first | go_values | go_skip | go_guarded | go_step | go_upon)
    go_ret
    exact ⟨rfl, by go_grown⟩

theorem infoAddr : (Tryd.prog.info? 44).map (·.size) = some 17 := by kernel_rfl

theorem adr_one (six : Bool) (f : Nat → Nat) : (adr six f).all (·.oneCell') = true := by simp [adr, Value.oneCell']

section
variable {ops : Array Oper} {rest : List Oper} {op : Oper} {a : Act} {w : World} {Q : Exit → Act → World → Prop}
/-- A whole address is read out of its block. -/
theorem ld_addr (x : Operand) {g : Nat} {t : TypeId} {six : Bool} {f : Nat → Nat} (hB : IsB w g t (adr six f)) (hgd : op.guard = none) (ho : op.op = .load 44 x) (hx : a.eval x = .pointer (some ⟨g, 0, none⟩))
    (h : wpList Tryd.prog ops Q rest (a.put op.dst (.agg (adr six f))) w) : wpList Tryd.prog ops Q (op :: rest) a w :=
  wpList_load_row hgd 44 x ho g hx t _ _ _ hB Tryd.underlying44 rfl infoAddr h
/-- The same behind a guard that says yes. -/
theorem ld_addrG (x : Operand) {g : Nat} {t : TypeId} {six : Bool} {f : Nat → Nat} (hB : IsB w g t (adr six f)) (hgd : Region.wanted op (yielded ops a.tmps) = true) (ho : op.op = .load 44 x) (hx : a.eval x = .pointer (some ⟨g, 0, none⟩))
    (h : wpList Tryd.prog ops Q rest (a.put op.dst (.agg (adr six f))) w) : wpList Tryd.prog ops Q (op :: rest) a w :=
  BigFrame.wpList_want hgd fun _ hK => wp_load_row 44 x ho g hx t _ _ _ hB Tryd.underlying44 rfl infoAddr (hK _ _ h)
/-- A whole address goes into a block of its size. -/
theorem st_addr (x y : Operand) {g : Nat} {t : TypeId} {cs : Array Value} (six : Bool) (f : Nat → Nat) (hB : IsB w g t cs) (hs : cs.size = 17) (hgd : op.guard = none) (ho : op.op = .store 44 x y) (hx : a.eval x = .pointer (some ⟨g, 0, none⟩))
    (hy : a.eval y = .agg (adr six f)) (h : ∀ w', IsB w' g t (adr six f) → Only g w w' → wpList Tryd.prog ops Q rest (a.put op.dst undef) w') : wpList Tryd.prog ops Q (op :: rest) a w :=
  wpList_store_isB hgd 44 x y ho g _ hx hy hB hs infoAddr (adr_one _ _) h
end

/-- A byte of an address behind a cut at n digits. -/
def cutB (n i x : Nat) : Nat := if n ≤ 8 * i then 0 else if n < 8 * i + 8 then x / 2 ^ (8 * i + 8 - n) * 2 ^ (8 * i + 8 - n) else x
def cutF (n : Nat) (f : Nat → Nat) : Nat → Nat := fun i => cutB n i (f i)
def cutK (n k : Nat) (f : Nat → Nat) : Nat → Nat := fun i => if i < k then cutB n i (f i) else f i

theorem and_mask_nat : ∀ (x : Fin 256) (s : Fin 8), x.val &&& (255 * 2 ^ s.val % 256) = x.val / 2 ^ s.val * 2 ^ s.val := by decide +kernel
theorem and_mask (x s : Nat) (hx : x < 256) (hs : s < 8) : bits BinOp.and IntKind.u8 (x : Int) (255 * 2 ^ s % 256) = ((x / 2 ^ s * 2 ^ s : Nat) : Int) := by
  have e : ((255 : Int) * 2 ^ s % 256) = ((255 * 2 ^ s % 256 : Nat) : Int) := by simp
  rw [e, u8_and_nat _ _ hx (Nat.mod_lt _ (by omega))]
  exact congrArg _ (and_mask_nat ⟨x, hx⟩ ⟨s, hs⟩)
theorem cut_step {six : Bool} (n k : Nat) (f : Nat → Nat) {v : Nat} (h : v = cutB n k (f k)) : adr six (upd (cutK n k f) k v) = adr six (cutK n (k + 1) f) := by
  refine adr_ext fun i _ => ?_
  unfold upd cutK
  by_cases h1 : i = k
  · subst h1; simp [h]
  · by_cases h2 : i < k
    · simp [h1, h2, show i < k + 1 by omega]
    · simp [h1, h2, show ¬ i < k + 1 by omega]
theorem cut_skip {six : Bool} (n k : Nat) (f : Nat → Nat) (h : cutB n k (f k) = f k) : adr six (cutK n (k + 1) f) = adr six (cutK n k f) := by
  refine adr_ext fun i _ => ?_
  unfold cutK
  by_cases h1 : i = k
  · subst h1; simp [h]
  · by_cases h2 : i < k
    · simp [h2, show i < k + 1 by omega]
    · simp [h2, show ¬ i < k + 1 by omega]

set_option maxHeartbeats 2000000 in
set_option maxRecDepth 100000 in
theorem cut_any (six : Bool) (f : Nat → Nat) (n : Nat) (w : World) (hf : ∀ i, i < 16 → f i < 256) (hn : n ≤ 128) :
    Calls Tryd.prog 60 #[.agg (adr six f), .int .i64 n] w fun e w' => e = .returned (.agg (adr six (cutF n f))) ∧ Below w.heap.size w w' := by
  go_enter Tryd.func60, Tryd.ntmps60
  repeat' (first | go_values | go_skip | go_guarded | go_step | go_upon)
  go_loopw [6] (fun i wr => ∃ k : Nat, k ≤ 16 ∧ i = .int .i64 k ∧ IsB wr w.heap.size 44 (adr six (cutK n k f)) ∧ IsB wr (w.heap.size + 1) 44 (adr false fun _ => 0) ∧ Below w.heap.size w wr) (fun i _ => 16 - (intOf i).toNat)
  case atStart =>
    refine ⟨0, by omega, rfl, ?_, ?_, by go_grown⟩
    · exact (IsB.of_new w _ _ rfl).alloc _
    · exact IsB.of_new _ _ _ (by simp)
  case round =>
    obtain ⟨k, hk, rfl, B0, B1, hb⟩ := hrel
    by_cases hlt : k < 16
    · have cB := B0.cell
      have c0 := cB (1 + k)
      rw [adr_at _ _ _ hlt] at c0
      have f0 := B0.free (1 + k)
      have hv : cutK n k f k = f k := by simp [cutK]
      have HV := Lib.hid hv
      rw [hv] at c0
      clear hv cB
      by_cases h1 : n ≤ 8 * k
      · have d1 : decide ((n : Int) ≤ 8 * k) = true := decide_eq_true (by omega)
        have FIN := B0.put (1 + k) (.int .u8 0)
        rw [show Value.int .u8 0 = Value.int .u8 ((0 : Nat) : Int) from rfl, adr_set _ _ _ _ hlt, cut_step _ _ _ (by simp [cutB, h1])] at FIN
        repeat' (first | go_values | go_skip | go_guarded | go_step | go_upon)
        exact ⟨⟨k + 1, by omega, by go_num, FIN, B1.far (by simp) _, hb.setCell (Nat.le_refl _) _⟩, by simp [intOf]; omega⟩
      · have d1 : decide ((n : Int) ≤ 8 * k) = false := decide_eq_false (by omega)
        by_cases h2 : n < 8 * k + 8
        · have d2 : decide ((n : Int) < 8 * k + 8) = true := decide_eq_true (by omega)
          repeat' (first | go_values | go_skip | go_guarded | go_step | go_upon)
          go_region
          all_goals repeat' (first | go_values | go_skip | go_guarded | go_step | go_upon)
          rw [and_mask _ _ (hf k hlt) (by omega)]
          have FIN := (B0.put (1 + k) (.int .u8 ((f k / 2 ^ (8 * k + 8 - n) * 2 ^ (8 * k + 8 - n) : Nat) : Int))).drew
          rw [adr_set _ _ _ _ hlt, cut_step _ _ _ (by simp [cutB, h1, h2])] at FIN
          exact ⟨⟨k + 1, by omega, by go_num, FIN, (B1.far (by simp) _).drew, (hb.setCell (Nat.le_refl _) _).drew⟩, by simp [intOf]; omega⟩
        · have d2 : decide ((n : Int) < 8 * k + 8) = false := decide_eq_false (by omega)
          repeat' (first | go_values | go_skip | go_guarded | go_step | go_upon)
          rw [← cut_skip _ _ _ (by simp [cutB, h1, h2])] at B0
          exact ⟨⟨k + 1, by omega, by go_num, B0, B1, hb⟩, by simp [intOf]; omega⟩
    · have d0 : decide (k < 16) = false := decide_eq_false hlt
      obtain rfl : k = 16 := by omega
      go_wp2_with (first | (refine ld_addr (.tmp 2) B0 (by rfl) (by rfl) (by rfl) ?_) | (refine st_addr (.tmp 4) (.tmp 37) six (cutK n 16 f) B1 rfl (by rfl) (by rfl) (by rfl) (by rfl) ?_; intro w2 D1 ho2))
      refine bodyPost_ret (results_cell_row rfl _ _ (w.heap.size + 1) _ _ _ _ rfl D1 Tryd.underlying44 rfl infoAddr) rfl ⟨?_, below_only hb ho2 (by omega)⟩
      rw [adr_ext (f := cutK n 16 f) (g := cutF n f) (fun i hi => by simp [cutK, cutF, hi])]
end Go.Proofs.YtfljebipoajfpaaDoor
