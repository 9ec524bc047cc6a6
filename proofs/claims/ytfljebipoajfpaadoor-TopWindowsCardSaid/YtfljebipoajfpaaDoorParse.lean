/- Parse and ParsePrefix at texts of IPv4. -/
import Derived.Test.YtfljebipoajfpaaDoorShort
namespace Go.Proofs.YtfljebipoajfpaaDoor
open Go.RowKit Go.Sort

/-- A text of four numbers with dots between: the address' bytes. -/
structure Dotted (s : ByteArray) (v : Nat → Nat) : Prop where
  size : s.size < 4294967281
  words : ∃ ws : Nat → ByteArray, Lib.countB s ⟨#[46]⟩ = 3 ∧ Lib.splitB ⟨#[46]⟩ 0 3 s = [ws 0, ws 1, ws 2, ws 3] ∧ (∀ k, k < 4 → (ws k).size ≤ 281474976710656 ∧ readNum (ws k) 255 = (v k, 0))
  byte : ∀ k, k < 4 → v k < 256
theorem rt_upTo {v : Nat → Nat} (h : ∀ k, k < 4 → v k < 256) : Rt false (upTo 4 v) :=
  ⟨fun i _ => by
    unfold upTo
    split
    · exact h i (by omega)
    · omega, fun _ i h4 _ => by unfold upTo; rw [if_neg (by omega)]⟩

theorem ret_adrE {a b : Array Value} {x y : Int} (h : a = b) (h1 : x = y) : Ending.returned (.tuple #[.agg a, .int .i64 x]) = .returned (.tuple #[.agg b, .int .i64 y]) := by rw [h, h1]

set_option maxHeartbeats 1000000 in
set_option maxRecDepth 100000 in
theorem parse_four (s : ByteArray) (v : Nat → Nat) (w : World) (hD : Dotted s v) (hG : Glob w) :
    Calls Tryd.prog 26 #[.string s] w fun e w' => e = .returned (.tuple #[.agg (adr false (upTo 4 v)), .int .i64 0]) ∧ Below w.heap.size w w' := by
  obtain ⟨ws, hc, hl, hw⟩ := hD.words
  have S := Lib.hid (parseShort_yes s ws v (w.alloc (.cells (adr false fun _ => 0) 44)) hD.size (hG.below ((Below.refl _ _).alloc (Nat.le_refl _) _)) hc hl hw hD.byte)
  clear hc hl
  go_enter Tryd.func26, Tryd.ntmps26
  repeat' (first | go_values | go_skip | go_guarded | go_step | go_upon)
  refine S.out.mono ?_
  rintro e w1 ⟨rfl, hb⟩
  have B0 : IsB w1 w.heap.size 44 (adr false fun _ => 0) := (IsB.of_new w _ _ rfl).belowS hb
  have bw : Below w.heap.size w w1 := ((Below.refl _ _).alloc (Nat.le_refl _) _).trans (hb.mono (by simp))
  have hsz := B0.lt
  dsimp only
  go_wp2_with (first | (refine st_addr (.tmp 4) (.tmp 9) false (upTo 4 v) (IsB.of_new (g := w1.heap.size) w1 _ _ rfl) rfl (by rfl) (by rfl) (by rfl) (by rfl) ?_; intro w2 C1 ho2; have C0 := (B0.alloc _).only ho2 (by omega)) | (refine ld_addrG (.tmp 4) C1 (by rfl) (by rfl) (by rfl) ?_) | (refine st_addr (.tmp 2) (.tmp 21) false (upTo 4 v) C0 rfl (by rfl) (by rfl) (by rfl) (by rfl) ?_; intro w3 D0 ho3))
  exact bodyPost_ret (results_cell_tmp rfl _ _ w.heap.size _ _ _ rfl D0 Tryd.underlying44 rfl infoAddr) rfl ⟨rfl, below_only (below_only (bw.alloc bw.size _) ho2 bw.size) ho3 (Nat.le_refl _)⟩

set_option maxHeartbeats 2000000 in
set_option maxRecDepth 100000 in
theorem parsePrefix_four (s : ByteArray) (at_ n : Nat) (v : Nat → Nat) (w : World) (hs : s.size < 4294967281) (hG : Glob w) (hat : Lib.lastIndexByte s 47 = at_) (hlt : at_ < s.size)
    (hD : Dotted (s.extract 0 at_) v) (hn : readNum (s.extract (at_ + 1) s.size) 32 = (n, 0)) (hnl : n ≤ 32) (hf : fits (upTo 4 v) n = true) :
    Calls Tryd.prog 24 #[.string s] w fun e w' => e = .returned (.tuple #[.agg (pfx false (upTo 4 v) n), .int .i64 0]) ∧ Below w.heap.size w w' := by
  have L := Tryd.strings_LastIndexByte s 47 (by omega) (w.alloc (.cells (pfx false (fun _ => 0) 0) 70))
  rw [hat] at L
  have LL := Lib.hid L
  have HN := Lib.hid hn
  have HF := Lib.hid hf
  have HT := Lib.hid hat
  clear L hn hf hat
  have d0 : decide ((at_ : Int) < 0) = false := decide_eq_false (by omega)
  go_enter Tryd.func24, Tryd.ntmps24
  repeat' (first | go_values | go_skip | go_guarded | go_step | go_upon)
  refine LL.out.mono ?_
  rintro e w1 ⟨rfl, rfl⟩
  have B0 : IsB (w.alloc (.cells (pfx false (fun _ => 0) 0) 70)) w.heap.size 70 (pfx false (fun _ => 0) 0) := IsB.of_new w _ _ rfl
  have bw : Below w.heap.size w (w.alloc (.cells (pfx false (fun _ => 0) 0) 70)) := by go_grown
  generalize (w.alloc (.cells (pfx false (fun _ => 0) 0) 70)) = w1 at *
  dsimp only
  repeat' (first | go_values | go_skip | go_guarded | go_step | go_upon)
  refine (parse_four _ v _ hD (hG.below bw)).mono ?_
  rintro e w2 ⟨rfl, hb2⟩
  have C0 := B0.belowS hb2
  have bw2 := bw.trans (hb2.mono bw.size)
  have hsz := C0.lt
  dsimp only
  go_wp2_with (first | (refine st_addr (.tmp 6) (.tmp 22) false (upTo 4 v) (IsB.of_new (g := w2.heap.size) w2 _ _ rfl) rfl (by rfl) (by rfl) (by rfl) (by rfl) ?_; intro w3 D1 ho3; have D0 := (C0.alloc _).only ho3 (by omega)))
  have bw3 : Below w.heap.size w w3 := below_only (bw2.alloc bw2.size _) ho3 bw2.size
  have cD : ∀ W, Calls Tryd.prog 38 #[.agg (adr false (upTo 4 v))] W fun e w' => e = .returned (.int .i64 32) ∧ Below W.heap.size W w' := fun W => digits_any false (upTo 4 v) W
  have cN : ∀ d os, Calls Tryd.prog 37 #[.string (s.extract (at_ + 1) s.size), .int .u64 32] (grow (redrawn w3 d) os) fun e w' => e = .returned (.tuple #[.int .u64 n, .int .i64 0]) ∧ Below (grow (redrawn w3 d) os).heap.size (grow (redrawn w3 d) os) w' := fun d os => by
    have hg : Glob (grow (redrawn w3 d) os) := (hG.below bw3).below (below_regrown w3 d os)
    have := readNumber_any (s.extract (at_ + 1) s.size) 32 (grow (redrawn w3 d) os) (by rw [ByteArray.size_extract]; omega) hg
    rwa [HN.out] at this
  have CD := Lib.hid cD
  have CN := Lib.hid cN
  clear cD cN
  refine wp_region_quiet_below (by kernel_rfl) (by kernel_rfl) ?_
  repeat (first | go_big_quiet_skip | (refine ldq_adr (.tmp 6) D1.quiet (by rfl) (by rfl) (by rfl) ?_) | go_big_quiet_step (first | exact Calls.regrown_of (CD.out _) | exact Calls.regrown_of (CN.out _ _)) | quiet_step (first | exact Calls.regrown_of (CD.out _) | exact Calls.regrown_of (CN.out _ _)))
  refine wpQuiet_nil ?_
  intro _ hw'
  obtain ⟨⟨dq, osq⟩, hw''⟩ := hw'
  subst hw''
  have hq := below_regrown w3 dq osq
  generalize grow (redrawn w3 dq) osq = w4 at *
  have E0 := D0.belowS hq
  have E1 := D1.belowS hq
  have bw4 := bw3.trans (hq.mono bw3.size)
  have hsz4 := E0.lt
  go_wp2_with (first | (refine ld_addrG (.tmp 6) E1 (by rfl) (by rfl) (by rfl) ?_) | (refine st_pfx (.tmp 10) (.tmp 42) false (upTo 4 v) n (IsB.of_new (g := w4.heap.size) w4 _ _ rfl) rfl (by rfl) (by rfl) (by rfl) (by rfl) ?_; intro w5 F1 ho5; have F0 := (E0.alloc _).only ho5 (by omega)) | (refine ld_pfx (.tmp 10) F1 (by rfl) (by rfl) (by rfl) ?_))
  have bw5 : Below w.heap.size w w5 := below_only (bw4.alloc bw4.size _) ho5 bw4.size
  refine (rightPrefix_any false (upTo 4 v) n _ (rt_upTo hD.byte) hnl).mono ?_
  rintro e w6 ⟨rfl, hb6⟩
  have G0 := F0.belowS hb6
  have G1 := F1.belowS hb6
  have bw6 := bw5.trans (hb6.mono bw5.size)
  rw [HF.out]
  dsimp only
  go_wp2_with (first | (refine ld_pfx (.tmp 10) G1 (by rfl) (by rfl) (by rfl) ?_) | (refine st_pfx (.tmp 2) (.tmp 55) false (upTo 4 v) n G0 rfl (by rfl) (by rfl) (by rfl) (by rfl) ?_; intro w7 H0 ho7))
  exact bodyPost_ret (results_cell_tmp rfl _ _ w.heap.size _ _ _ rfl H0 Tryd.underlying70 rfl infoPfx) rfl ⟨rfl, below_only bw6 ho7 (Nat.le_refl _)⟩
end Go.Proofs.YtfljebipoajfpaaDoor
