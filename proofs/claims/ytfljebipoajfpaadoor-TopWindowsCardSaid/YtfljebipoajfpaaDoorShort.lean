/- Addresses of IPv4, read. -/
import Derived.Test.YtfljebipoajfpaaDoorPfx
import Derived.Test.YtfljebipoajfpaaDoorNum
namespace Go.Proofs.YtfljebipoajfpaaDoor
open Go.RowKit Go.Sort

abbrev four (ws : Nat → ByteArray) : Array Value := #[.string (ws 0), .string (ws 1), .string (ws 2), .string (ws 3)]
theorem four_at (ws : Nat → ByteArray) (k : Nat) (h : k < 4) : (four ws)[k]? = some (.string (ws k)) := by
  rcases (by omega : k = 0 ∨ k = 1 ∨ k = 2 ∨ k = 3) with rfl | rfl | rfl | rfl <;> rfl
/-- The bytes of an address of IPv4, as far as they are read. -/
def upTo (k : Nat) (v : Nat → Nat) : Nat → Nat := fun i => if i < k then v i else 0
theorem upTo_step {six : Bool} (k : Nat) (v : Nat → Nat) : adr six (upd (upTo k v) k (v k)) = adr six (upTo (k + 1) v) := by
  refine adr_ext fun i _ => ?_
  unfold upd upTo
  by_cases h1 : i = k
  · subst h1; simp
  · by_cases h2 : i < k
    · simp [h1, h2, show i < k + 1 by omega]
    · simp [h1, h2, show ¬ i < k + 1 by omega]

theorem ret_adr {a b : Array Value} {x y : Bool} (h : a = b) (h1 : x = y) : Ending.returned (.tuple #[.agg a, .bool x]) = .returned (.tuple #[.agg b, .bool y]) := by rw [h, h1]

set_option maxHeartbeats 1000000 in
set_option maxRecDepth 100000 in
theorem parseShort_yes (s : ByteArray) (ws : Nat → ByteArray) (v : Nat → Nat) (w : World) (hs : s.size < 4294967281) (hG : Glob w)
    (hc : Lib.countB s ⟨#[46]⟩ = 3) (hl : Lib.splitB ⟨#[46]⟩ 0 3 s = [ws 0, ws 1, ws 2, ws 3]) (hw : ∀ k, k < 4 → (ws k).size ≤ 281474976710656 ∧ readNum (ws k) 255 = (v k, 0)) (hv : ∀ k, k < 4 → v k < 256) :
    Calls Tryd.prog 44 #[.string s] w fun e w' => e = .returned (.tuple #[.agg (adr false (upTo 4 v)), .bool true]) ∧ Below w.heap.size w w' := by
  have hW : Glob ((w.alloc (.cells (adr false fun _ => 0) 44)).alloc (.cells (adr false fun _ => 0) 44)) := hG.below (by go_grown)
  obtain ⟨m, hm⟩ := hW.maxLen
  have S := Tryd.strings_Split s ⟨#[46]⟩ m ((w.alloc (.cells (adr false fun _ => 0) 44)).alloc (.cells (adr false fun _ => 0) 44)) hs hm (by decide)
  rw [hc, hl] at S
  have e2 : ((w.alloc (.cells (adr false fun _ => 0) 44)).alloc (.cells (adr false fun _ => 0) 44)).heap.size = w.heap.size + 2 := by simp
  rw [e2] at S
  have S2 : Calls Tryd.prog 57 #[.string s, .string ⟨#[46]⟩] ((w.alloc (.cells (adr false fun _ => 0) 44)).alloc (.cells (adr false fun _ => 0) 44)) fun e w' =>
      e = .returned (.slice (some ⟨w.heap.size + 2, 0, none⟩) 4 4) ∧ IsB w' w.heap.size 44 (adr false fun _ => 0) ∧ IsB w' (w.heap.size + 1) 44 (adr false (upTo 0 v)) ∧ IsB w' (w.heap.size + 2) 9 (four ws) ∧ Below w.heap.size w w' :=
    S.mono fun e w' ⟨he, hw'⟩ => by
      subst hw'
      exact ⟨he, ((IsB.of_new w _ _ rfl).alloc _).alloc _, (IsB.of_new _ _ _ (by simp)).alloc _, IsB.of_new _ _ _ e2.symm, by go_grown⟩
  have SS := Lib.hid S2
  clear S S2 hm hc hl e2 hW
  go_enter Tryd.func44, Tryd.ntmps44
  repeat' (first | go_values | go_skip | go_guarded | go_step | go_upon)
  refine SS.out.mono ?_
  rintro e w1 ⟨rfl, B0, B1, B2, bw⟩
  dsimp only
  repeat' (first | go_values | go_skip | go_guarded | go_step | go_upon)
  go_loopw [18] (fun i wr => ∃ k : Nat, k ≤ 4 ∧ i = .int .i64 k ∧ IsB wr w.heap.size 44 (adr false fun _ => 0) ∧ IsB wr (w.heap.size + 1) 44 (adr false (upTo k v)) ∧ IsB wr (w.heap.size + 2) 9 (four ws) ∧ Below w.heap.size w wr) (fun i _ => 4 - (intOf i).toNat)
  case atStart => exact ⟨0, by omega, rfl, B0, B1, B2, bw⟩
  case round =>
    obtain ⟨k, hk, rfl, C0, C1, C2, cb⟩ := hrel
    clear B0 B1 B2 bw
    have cg := hG.below cb
    by_cases hlt : k < 4
    · have c2 := C2.cell k
      rw [four_at _ _ hlt] at c2
      obtain ⟨hsz, hrd⟩ := hw k hlt
      have R := readNumber_any (ws k) 255 wr hsz cg
      rw [hrd] at R
      have RR := Lib.hid R
      clear R hrd
      have hvk := hv k hlt
      repeat' (first | go_values | go_skip | go_guarded | go_step | go_upon)
      refine RR.out.mono ?_
      rintro e w2 ⟨rfl, hb⟩
      clear c2
      have D0 := C0.belowS hb
      have D1 := C1.belowS hb
      have D2 := C2.belowS hb
      have db := cb.trans (hb.mono cb.size)
      have d1 : w2.cell? ⟨w.heap.size + 1, 1 + k, none⟩ = some (.int .u8 (upTo k v k)) := by rw [D1.cell, adr_at _ _ _ (by omega)]
      have f1 := D1.free (1 + k)
      dsimp only
      repeat' (first | go_values | go_skip | go_guarded | go_step | go_upon)
      have FIN := D1.put (1 + k) (.int .u8 (v k))
      rw [adr_set _ _ _ _ (by omega), upTo_step] at FIN
      exact ⟨⟨k + 1, by omega, by go_num, D0.far (by simp) _, FIN, D2.far (by simp) _, db.setCell (by simp) _⟩, by simp [intOf]; omega⟩
    · have d0 : decide (k < 4) = false := decide_eq_false hlt
      obtain rfl : k = 4 := by omega
      go_wp2_with (first | (refine ld_addrG (.tmp 4) C1 (by rfl) (by rfl) (by rfl) ?_) | (refine st_addr (.tmp 2) (.tmp 37) false (upTo 4 v) C0 rfl (by rfl) (by rfl) (by rfl) (by rfl) ?_; intro w2 D0 ho2))
      exact bodyPost_ret (results_cell_tmp rfl _ _ w.heap.size _ _ _ rfl D0 Tryd.underlying44 rfl infoAddr) rfl ⟨rfl, below_only cb ho2 (Nat.le_refl _)⟩
end Go.Proofs.YtfljebipoajfpaaDoor
