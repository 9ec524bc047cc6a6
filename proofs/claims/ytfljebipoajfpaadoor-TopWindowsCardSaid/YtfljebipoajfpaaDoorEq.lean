/- '==' on addresses and prefixes. -/
import Derived.Test.YtfljebipoajfpaaDoorAddr2
namespace Go.Proofs.YtfljebipoajfpaaDoor
open Go.RowKit

theorem part_u8 (w : World) (xs : Array Value) (i : Nat) (k : Int) (h : xs[i]? = some (.int .u8 k)) : (part 5 xs (i * 1)).run Tryd.prog w = .ok (.int .u8 k) w := by
  have hi : ∃ j, Tryd.prog.info? 5 = some j ∧ j.size = 1 := by
    have : (Tryd.prog.info? 5).map (·.size) = some 1 := by kernel_rfl
    obtain ⟨j, h1, h2⟩ := Option.map_eq_some_iff.1 this
    exact ⟨j, h1, h2⟩
  obtain ⟨j, h1, h2⟩ := hi
  simp [part, isAgg, run_underlying Tryd.underlying5, sizeOf, typeInfo, h1, h2, h]

theorem eqArr (d : Nat) (xs ys : Array Value) (x y : Nat → Nat) (hx : ∀ i, i < 16 → xs[i]? = some (.int .u8 (x i))) (hy : ∀ i, i < 16 → ys[i]? = some (.int .u8 (y i))) (w : World) :
    (Op.equalIn (d + 2) 42 (.agg xs) (.agg ys)).run Tryd.prog w = .ok ((List.range 16).all fun i => x i == y i) w := by
  have hi : ∃ j, Tryd.prog.info? 5 = some j ∧ j.size = 1 := by
    have : (Tryd.prog.info? 5).map (·.size) = some 1 := by kernel_rfl
    obtain ⟨j, h1, h2⟩ := Option.map_eq_some_iff.1 this
    exact ⟨j, h1, h2⟩
  obtain ⟨j, h1, h2⟩ := hi
  rw [Op.equalIn]
  simp only [Sem.run_bind, run_underlying Tryd.underlying42, Result.andThen_ok, sizeOf, typeInfo, run_program, h1, h2, Sem.run_pure, Std.Legacy.Range.forIn_eq_forIn_range']
  have hl : ∀ i ∈ List.range' 0 16 1, i < 16 := by decide
  have e : (List.range 16) = List.range' 0 16 1 := by decide
  rw [e, show Std.Legacy.Range.size [0:16] = 16 from rfl]
  generalize List.range' 0 16 1 = l at *
  clear e
  induction l generalizing w with
  | nil => simp
  | cons i l ih => 
    simp only [List.forIn_cons, Sem.run_bind]
    have hi16 : i < 16 := hl i (by simp)
    have hl' : ∀ k ∈ l, k < 16 := fun k hk => hl k (by simp [hk])
    rw [part_u8 w xs i _ (hx i hi16)]
    simp only [Result.andThen_ok]
    rw [part_u8 w ys i _ (hy i hi16)]
    simp only [Result.andThen_ok]
    rw [run_equalIn_int w d 5 .u8 .u8 _ _ Tryd.underlying5]
    simp only [Result.andThen_ok]
    by_cases he : x i = y i
    · have hb : (((x i : Nat) : Int) == ((y i : Nat) : Int)) = true := by simp [he]
      rw [hb]
      simp only [Bool.not_true, Bool.false_eq_true, if_false, Sem.run_pure, Result.andThen_ok]
      rw [ih w hl']
      simp [he]
    · have hb : (((x i : Nat) : Int) == ((y i : Nat) : Int)) = false := by simp; omega
      rw [hb]
      simp only [Bool.not_false, if_true, Sem.run_pure, Result.andThen_ok]
      simp [he]

def same16 (f g : Nat → Nat) : Bool := (List.range 16).all fun i => f i == g i
theorem two_of {α β : Type} {g : α → β} {x y : β} {l : List α} {r : List β} (h : l.map g = r) (hr : r = [x, y]) : ∃ a b, l = [a, b] := by
  subst hr
  match l, h with
  | [a, b], _ => exact ⟨a, b, rfl⟩
  | [], h => simp at h
  | [_], h => simp at h
  | _ :: _ :: _ :: _, h => simp at h
abbrev row16 (f : Nat → Nat) : Array Value := #[.int .u8 (f 0), .int .u8 (f 1), .int .u8 (f 2), .int .u8 (f 3), .int .u8 (f 4), .int .u8 (f 5), .int .u8 (f 6), .int .u8 (f 7), .int .u8 (f 8), .int .u8 (f 9), .int .u8 (f 10), .int .u8 (f 11), .int .u8 (f 12), .int .u8 (f 13), .int .u8 (f 14), .int .u8 (f 15)]
theorem row16_at (f : Nat → Nat) : ∀ i, i < 16 → (row16 f)[i]? = some (.int .u8 (f i)) := by
  intro i h
  rcases (by omega : i = 0 ∨ i = 1 ∨ i = 2 ∨ i = 3 ∨ i = 4 ∨ i = 5 ∨ i = 6 ∨ i = 7 ∨ i = 8 ∨ i = 9 ∨ i = 10 ∨ i = 11 ∨ i = 12 ∨ i = 13 ∨ i = 14 ∨ i = 15) with rfl | rfl | rfl | rfl | rfl | rfl | rfl | rfl | rfl | rfl | rfl | rfl | rfl | rfl | rfl | rfl <;> rfl
theorem fieldsAddr : (Tryd.prog.fieldsOf 44).toList.map (fun f => (f.name, f.type, f.offset)) = [("Six", 4, 0), ("B", 42, 1)] := by kernel_rfl
theorem eqAddrIn (d : Nat) (s s' : Bool) (f g : Nat → Nat) (w : World) : (Op.equalIn (d + 3) 44 (.agg (adr s f)) (.agg (adr s' g))).run Tryd.prog w = .ok (s == s' && same16 f g) w := by
  rw [run_equalIn_agg w (d + 2) 44 _ _ (by kernel_rfl) (by kernel_rfl)]
  have hf := fieldsAddr
  generalize (Tryd.prog.fieldsOf 44).toList = fs at hf
  obtain ⟨a, b, rfl⟩ := two_of hf rfl
  simp only [List.map_cons, List.map_nil, List.cons.injEq, Prod.mk.injEq, and_true] at hf
  obtain ⟨⟨a1, a2, a3⟩, b1, b2, b3⟩ := hf
  have p1 : ∀ (s : Bool) (f : Nat → Nat) (w : World), (part 4 (adr s f) 0).run Tryd.prog w = .ok (.bool s) w := fun _ _ _ => by kernel_rfl
  have p2 : ∀ (s : Bool) (f : Nat → Nat) (w : World), (part 42 (adr s f) 1).run Tryd.prog w = .ok (.agg (row16 f)) w := fun _ _ _ => by kernel_rfl
  simp only [Op.eqFields, a1, a2, a3, b1, b2, b3, Sem.run_bind, Sem.run_ite, p1, p2, Result.andThen_ok, run_equalIn_bool' _ _ 4 _ _ Tryd.underlying4, eqArr d _ _ _ _ (row16_at f) (row16_at g)]
  have e1 : ("Six" ≠ "_") = True := by decide
  have e2 : ("B" ≠ "_") = True := by decide
  simp only [e1, e2, if_true]
  show _ = Result.ok (s == s' && (List.range 16).all fun i => f i == g i) w
  generalize (List.range 16).all (fun i => f i == g i) = q
  generalize (s == s') = r
  cases r <;> cases q <;> rfl

/-- A prefix' eighteen cells. -/
abbrev pfx (six : Bool) (f : Nat → Nat) (n : Int) : Array Value := #[.bool six, .int .u8 (f 0), .int .u8 (f 1), .int .u8 (f 2), .int .u8 (f 3), .int .u8 (f 4), .int .u8 (f 5), .int .u8 (f 6), .int .u8 (f 7), .int .u8 (f 8), .int .u8 (f 9), .int .u8 (f 10), .int .u8 (f 11), .int .u8 (f 12), .int .u8 (f 13), .int .u8 (f 14), .int .u8 (f 15), .int .i64 n]
theorem fieldsPfx : (Tryd.prog.fieldsOf 70).toList.map (fun f => (f.name, f.type, f.offset)) = [("Addr", 44, 0), ("Bits", 3, 17)] := by kernel_rfl
theorem eqPfxIn (d : Nat) (s s' : Bool) (f g : Nat → Nat) (n m : Int) (w : World) : (Op.equalIn (d + 4) 70 (.agg (pfx s f n)) (.agg (pfx s' g m))).run Tryd.prog w = .ok (s == s' && same16 f g && n == m) w := by
  rw [run_equalIn_agg w (d + 3) 70 _ _ (by kernel_rfl) (by kernel_rfl)]
  have hf := fieldsPfx
  generalize (Tryd.prog.fieldsOf 70).toList = fs at hf
  obtain ⟨a, b, rfl⟩ := two_of hf rfl
  simp only [List.map_cons, List.map_nil, List.cons.injEq, Prod.mk.injEq, and_true] at hf
  obtain ⟨⟨a1, a2, a3⟩, b1, b2, b3⟩ := hf
  have p1 : ∀ (s : Bool) (f : Nat → Nat) (n : Int) (w : World), (part 44 (pfx s f n) 0).run Tryd.prog w = .ok (.agg (adr s f)) w := fun _ _ _ _ => by kernel_rfl
  have p2 : ∀ (s : Bool) (f : Nat → Nat) (n : Int) (w : World), (part 3 (pfx s f n) 17).run Tryd.prog w = .ok (.int .i64 n) w := fun _ _ _ _ => by kernel_rfl
  simp only [Op.eqFields, a1, a2, a3, b1, b2, b3, Sem.run_bind, Sem.run_ite, p1, p2, Result.andThen_ok, eqAddrIn, run_equalIn_int _ _ 3 _ _ _ _ Tryd.underlying3]
  have e1 : ("Addr" ≠ "_") = True := by decide
  have e2 : ("Bits" ≠ "_") = True := by decide
  simp only [e1, e2, if_true]
  generalize (s == s' && same16 f g) = q
  generalize (n == m) = r
  cases r <;> cases q <;> rfl

/-- Two addresses held against each other. -/
theorem run_eqAddr (s s' : Bool) (f g : Nat → Nat) (w : World) : (binOp .eql 44 (.agg (adr s f)) (.agg (adr s' g))).run Tryd.prog w = .ok (.bool (s == s' && same16 f g)) w := by
  rw [run_eql_struct]; rw [eqAddrIn 9997]; rfl
theorem run_neAddr (s s' : Bool) (f g : Nat → Nat) (w : World) : (binOp .neq 44 (.agg (adr s f)) (.agg (adr s' g))).run Tryd.prog w = .ok (.bool (!(s == s' && same16 f g))) w := by
  rw [run_neq_struct]; rw [eqAddrIn 9997]; rfl
theorem run_eqPfx (s s' : Bool) (f g : Nat → Nat) (n m : Int) (w : World) : (binOp .eql 70 (.agg (pfx s f n)) (.agg (pfx s' g m))).run Tryd.prog w = .ok (.bool (s == s' && same16 f g && n == m)) w := by
  rw [run_eql_struct]; rw [eqPfxIn 9996]; rfl
theorem run_nePfx (s s' : Bool) (f g : Nat → Nat) (n m : Int) (w : World) : (binOp .neq 70 (.agg (pfx s f n)) (.agg (pfx s' g m))).run Tryd.prog w = .ok (.bool (!(s == s' && same16 f g && n == m))) w := by
  rw [run_neq_struct]; rw [eqPfxIn 9996]; rfl
theorem same16_iff {f g : Nat → Nat} : same16 f g = true ↔ ∀ i, i < 16 → f i = g i := by simp [same16]
end Go.Proofs.YtfljebipoajfpaaDoor
