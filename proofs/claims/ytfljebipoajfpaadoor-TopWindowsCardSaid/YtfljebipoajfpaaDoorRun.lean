/- Whole structs loaded and stored: the rules at this program's types. (Each file that wants them lays 'attribute [local go_sem ↓] ex_..' and 'attribute [local go_sem] row_..'.) -/
import Derived.Test.YtfljebipoajfpaaDoorParse
namespace Go.Proofs.YtfljebipoajfpaaDoor
open Go.RowKit

/-- A route's nineteen cells; a node's twenty-one. -/
abbrev rte (six : Bool) (f : Nat → Nat) (n o : Int) : Array Value := #[.bool six, .int .u8 (f 0), .int .u8 (f 1), .int .u8 (f 2), .int .u8 (f 3), .int .u8 (f 4), .int .u8 (f 5), .int .u8 (f 6), .int .u8 (f 7), .int .u8 (f 8), .int .u8 (f 9), .int .u8 (f 10), .int .u8 (f 11), .int .u8 (f 12), .int .u8 (f 13), .int .u8 (f 14), .int .u8 (f 15), .int .i64 n, .int .i64 o]
abbrev nod (six : Bool) (f : Nat → Nat) (n o : Int) (l r : Value) : Array Value := #[.bool six, .int .u8 (f 0), .int .u8 (f 1), .int .u8 (f 2), .int .u8 (f 3), .int .u8 (f 4), .int .u8 (f 5), .int .u8 (f 6), .int .u8 (f 7), .int .u8 (f 8), .int .u8 (f 9), .int .u8 (f 10), .int .u8 (f 11), .int .u8 (f 12), .int .u8 (f 13), .int .u8 (f 14), .int .u8 (f 15), .int .i64 n, .int .i64 o, l, r]
theorem infoRte : (Tryd.prog.info? 78).map (·.size) = some 19 := by kernel_rfl
theorem infoNod : (Tryd.prog.info? 111).map (·.size) = some 21 := by kernel_rfl
theorem ex_ldAdr (ev : Operand → Value) (d : Option Tmp) (x : Operand) (t : TypeId) (p : String) (af : Array Edge) (gd : Option (Nat × Bool)) (w : World) : (execOp ev ⟨d, .load 44 x, t, p, af, gd⟩).run Tryd.prog w = ldOp Tryd.prog 44 (ev x) w := exec_ld _ _ _ _ _ _ _ _ _
theorem ex_stAdr (ev : Operand → Value) (d : Option Tmp) (x y : Operand) (t : TypeId) (p : String) (af : Array Edge) (gd : Option (Nat × Bool)) (w : World) : (execOp ev ⟨d, .store 44 x y, t, p, af, gd⟩).run Tryd.prog w = stOp Tryd.prog 44 (ev x) (ev y) w := exec_st _ _ _ _ _ _ _ _ _ _
theorem row_ldAdr (w : World) (g o : Nat) : ldOp Tryd.prog 44 (.pointer (some ⟨g, o, none⟩)) w = (rowOf w g).elim (laterL Tryd.prog 44 ⟨g, o, none⟩ w) fun cs => if o + 17 ≤ cs.size then .ok (.value (.agg (cs.toList.drop o |>.take 17).toArray)) w else laterL Tryd.prog 44 ⟨g, o, none⟩ w :=
  ldOp_row 44 _ 17 Tryd.underlying44 rfl infoAddr w g o
theorem row_stAdr (w : World) (g : Nat) (cells : Array Value) : stOp Tryd.prog 44 (.pointer (some ⟨g, 0, none⟩)) (.agg cells) w = (rowOf w g).elim (laterT Tryd.prog 44 ⟨g, 0, none⟩ (.agg cells) w) fun cs => if cs.size = 17 ∧ cells.size = 17 ∧ cells.toList.all (·.oneCell') = true then .ok .skip (w.setRow g cells) else laterT Tryd.prog 44 ⟨g, 0, none⟩ (.agg cells) w :=
  stOp_row 44 17 infoAddr w g cells
theorem ex_ldPfx (ev : Operand → Value) (d : Option Tmp) (x : Operand) (t : TypeId) (p : String) (af : Array Edge) (gd : Option (Nat × Bool)) (w : World) : (execOp ev ⟨d, .load 70 x, t, p, af, gd⟩).run Tryd.prog w = ldOp Tryd.prog 70 (ev x) w := exec_ld _ _ _ _ _ _ _ _ _
theorem ex_stPfx (ev : Operand → Value) (d : Option Tmp) (x y : Operand) (t : TypeId) (p : String) (af : Array Edge) (gd : Option (Nat × Bool)) (w : World) : (execOp ev ⟨d, .store 70 x y, t, p, af, gd⟩).run Tryd.prog w = stOp Tryd.prog 70 (ev x) (ev y) w := exec_st _ _ _ _ _ _ _ _ _ _
theorem row_ldPfx (w : World) (g o : Nat) : ldOp Tryd.prog 70 (.pointer (some ⟨g, o, none⟩)) w = (rowOf w g).elim (laterL Tryd.prog 70 ⟨g, o, none⟩ w) fun cs => if o + 18 ≤ cs.size then .ok (.value (.agg (cs.toList.drop o |>.take 18).toArray)) w else laterL Tryd.prog 70 ⟨g, o, none⟩ w :=
  ldOp_row 70 _ 18 Tryd.underlying70 rfl infoPfx w g o
theorem row_stPfx (w : World) (g : Nat) (cells : Array Value) : stOp Tryd.prog 70 (.pointer (some ⟨g, 0, none⟩)) (.agg cells) w = (rowOf w g).elim (laterT Tryd.prog 70 ⟨g, 0, none⟩ (.agg cells) w) fun cs => if cs.size = 18 ∧ cells.size = 18 ∧ cells.toList.all (·.oneCell') = true then .ok .skip (w.setRow g cells) else laterT Tryd.prog 70 ⟨g, 0, none⟩ (.agg cells) w :=
  stOp_row 70 18 infoPfx w g cells
theorem ex_ldRte (ev : Operand → Value) (d : Option Tmp) (x : Operand) (t : TypeId) (p : String) (af : Array Edge) (gd : Option (Nat × Bool)) (w : World) : (execOp ev ⟨d, .load 78 x, t, p, af, gd⟩).run Tryd.prog w = ldOp Tryd.prog 78 (ev x) w := exec_ld _ _ _ _ _ _ _ _ _
theorem ex_stRte (ev : Operand → Value) (d : Option Tmp) (x y : Operand) (t : TypeId) (p : String) (af : Array Edge) (gd : Option (Nat × Bool)) (w : World) : (execOp ev ⟨d, .store 78 x y, t, p, af, gd⟩).run Tryd.prog w = stOp Tryd.prog 78 (ev x) (ev y) w := exec_st _ _ _ _ _ _ _ _ _ _
theorem row_ldRte (w : World) (g o : Nat) : ldOp Tryd.prog 78 (.pointer (some ⟨g, o, none⟩)) w = (rowOf w g).elim (laterL Tryd.prog 78 ⟨g, o, none⟩ w) fun cs => if o + 19 ≤ cs.size then .ok (.value (.agg (cs.toList.drop o |>.take 19).toArray)) w else laterL Tryd.prog 78 ⟨g, o, none⟩ w :=
  ldOp_row 78 _ 19 Tryd.underlying78 rfl infoRte w g o
theorem row_stRte (w : World) (g : Nat) (cells : Array Value) : stOp Tryd.prog 78 (.pointer (some ⟨g, 0, none⟩)) (.agg cells) w = (rowOf w g).elim (laterT Tryd.prog 78 ⟨g, 0, none⟩ (.agg cells) w) fun cs => if cs.size = 19 ∧ cells.size = 19 ∧ cells.toList.all (·.oneCell') = true then .ok .skip (w.setRow g cells) else laterT Tryd.prog 78 ⟨g, 0, none⟩ (.agg cells) w :=
  stOp_row 78 19 infoRte w g cells
theorem ex_ldNod (ev : Operand → Value) (d : Option Tmp) (x : Operand) (t : TypeId) (p : String) (af : Array Edge) (gd : Option (Nat × Bool)) (w : World) : (execOp ev ⟨d, .load 111 x, t, p, af, gd⟩).run Tryd.prog w = ldOp Tryd.prog 111 (ev x) w := exec_ld _ _ _ _ _ _ _ _ _
theorem ex_stNod (ev : Operand → Value) (d : Option Tmp) (x y : Operand) (t : TypeId) (p : String) (af : Array Edge) (gd : Option (Nat × Bool)) (w : World) : (execOp ev ⟨d, .store 111 x y, t, p, af, gd⟩).run Tryd.prog w = stOp Tryd.prog 111 (ev x) (ev y) w := exec_st _ _ _ _ _ _ _ _ _ _
theorem row_ldNod (w : World) (g o : Nat) : ldOp Tryd.prog 111 (.pointer (some ⟨g, o, none⟩)) w = (rowOf w g).elim (laterL Tryd.prog 111 ⟨g, o, none⟩ w) fun cs => if o + 21 ≤ cs.size then .ok (.value (.agg (cs.toList.drop o |>.take 21).toArray)) w else laterL Tryd.prog 111 ⟨g, o, none⟩ w :=
  ldOp_row 111 _ 21 Tryd.underlying111 rfl infoNod w g o
theorem row_stNod (w : World) (g : Nat) (cells : Array Value) : stOp Tryd.prog 111 (.pointer (some ⟨g, 0, none⟩)) (.agg cells) w = (rowOf w g).elim (laterT Tryd.prog 111 ⟨g, 0, none⟩ (.agg cells) w) fun cs => if cs.size = 21 ∧ cells.size = 21 ∧ cells.toList.all (·.oneCell') = true then .ok .skip (w.setRow g cells) else laterT Tryd.prog 111 ⟨g, 0, none⟩ (.agg cells) w :=
  stOp_row 111 21 infoNod w g cells
end Go.Proofs.YtfljebipoajfpaaDoor
