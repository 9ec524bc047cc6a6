/- alive07: what must come of fixed calls. -/
import Derived.Test.YtfljebipoajfpaaDoorTrie2
namespace Go.Proofs.YtfljebipoajfpaaDoor
open Go.RowKit Go.Sort

def s10 : ByteArray := ⟨#[49, 48, 46, 48, 46, 48, 46, 48, 47, 56]⟩
def s10a : ByteArray := ⟨#[49, 48, 46, 57, 46, 56, 46, 55]⟩
def v10 : Nat → Nat := fun i => if i = 0 then 10 else 0
def v10a : Nat → Nat := fun i => if i = 0 then 10 else if i = 1 then 9 else if i = 2 then 8 else 7

theorem num_of (s : ByteArray) (m : Nat) (r : Nat × Int) (h : (if (s.data.toList.all dig && ((s.data.toList == [48]) || (!s.data.toList.isEmpty && (s.data.toList.head? != some 48)))) = true then (match Lib.parseUintB 64 s.data.toList with | .ok u => if m < u then (0, 2) else (u, 0) | _ => ((0 : Nat), (2 : Int))) else (0, 3)) = r) : readNum s m = r := by
  rw [← h]; unfold readNum isNum; rw [Lib.toList_data]; rfl
theorem dotted10 : Dotted (s10.extract 0 8) v10 := by
  refine ⟨by decide, ⟨fun i => if i = 0 then ⟨#[49, 48]⟩ else ⟨#[48]⟩, by decide +kernel, by decide +kernel, fun k hk => ?_⟩, fun k _ => by unfold v10; split <;> omega⟩
  rcases (by omega : k = 0 ∨ k = 1 ∨ k = 2 ∨ k = 3) with rfl | rfl | rfl | rfl <;> exact ⟨by decide, num_of _ _ _ (by decide +kernel)⟩
theorem dotted10a : Dotted s10a v10a := by
  refine ⟨by decide, ⟨fun i => if i = 0 then ⟨#[49, 48]⟩ else if i = 1 then ⟨#[57]⟩ else if i = 2 then ⟨#[56]⟩ else ⟨#[55]⟩, by decide +kernel, by decide +kernel, fun k hk => ?_⟩, fun k _ => by unfold v10a; repeat (split <;> try omega)⟩
  rcases (by omega : k = 0 ∨ k = 1 ∨ k = 2 ∨ k = 3) with rfl | rfl | rfl | rfl <;> exact ⟨by decide, num_of _ _ _ (by decide +kernel)⟩

attribute [local go_sem ↓] ex_ldPfx ex_stPfx ex_ldAdr ex_stAdr ex_ldRte ex_stRte
attribute [local go_sem] row_ldPfx row_stPfx row_ldAdr row_stAdr row_ldRte row_stRte

set_option maxHeartbeats 1000000 in
set_option maxRecDepth 100000 in
theorem alive07_any (w : World) (hG : Glob w) :
    Calls Tryd.prog 11 #[] w fun e w' => e = .returned (.bool true) ∧ Below w.heap.size w w' := by
  have P1 := Lib.hid (parsePrefix_four s10 8 8 v10 w (by decide) hG (by decide +kernel) (by decide) dotted10 (num_of _ _ _ (by decide +kernel)) (by omega) (by decide +kernel))
  have r1 := rt_upTo dotted10.byte
  have r2 := rt_upTo dotted10a.byte
  go_enter Tryd.func11, Tryd.ntmps11
  repeat' (first | go_values | go_skip | go_guarded | go_step | go_upon)
  refine P1.out.mono ?_
  rintro e w1 ⟨rfl, hb1⟩
  dsimp only
  repeat' (first | go_values | go_skip | go_guarded | go_step | go_upon)
  refine (Put_nil (upTo 4 v10) 8 3 _ r1 (by omega) (by decide +kernel) (by omega)).mono ?_
  rintro e w2 ⟨T, N, rfl, hT, hN, hb2⟩
  have bw2 : Below w.heap.size w w2 := (below_only (hb1.alloc hb1.size _) (setRow_only _ _ _) hb1.size).trans (hb2.mono (by have := hb1.size; simp; omega))
  dsimp only
  repeat' (first | go_values | go_skip | go_guarded | go_step | go_upon)
  refine (parse_four s10a v10a _ dotted10a (hG.below bw2)).mono ?_
  rintro e w3 ⟨rfl, hb3⟩
  have bw3 := bw2.trans (hb3.mono bw2.size)
  have T3 := hT.belowS hb3
  have N3 := hN.belowS hb3
  dsimp only
  repeat' (first | go_values | go_skip | go_guarded | go_step | go_upon)
  refine (Find_one T N (upTo 4 v10) (upTo 4 v10a) 8 3 1 _ ((T3.alloc _).only (setRow_only _ _ _) (by have := T3.lt; omega)) ((N3.alloc _).only (setRow_only _ _ _) (by have := N3.lt; omega)) r1 r2 (by omega) (by omega) (by decide +kernel) (by decide +kernel)).mono ?_
  rintro e w4 ⟨rfl, hb4⟩
  have bw4 : Below w.heap.size w w4 := (below_only (bw3.alloc bw3.size _) (setRow_only _ _ _) bw3.size).trans (hb4.mono (by have := bw3.size; simp; omega))
  dsimp only
  repeat' (first | go_values | go_skip | go_guarded | go_step | go_upon)
  go_ret
  exact ⟨rfl, below_only (bw4.alloc bw4.size _) (setRow_only _ _ _) bw4.size⟩
end Go.Proofs.YtfljebipoajfpaaDoor
