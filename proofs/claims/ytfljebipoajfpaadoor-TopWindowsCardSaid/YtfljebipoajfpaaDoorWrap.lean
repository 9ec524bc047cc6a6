/- What every statement of this seat asks beside its walk: the world's three variables, the witness' world. -/
import Derived.Test.YtfljebipoajfpaaDoorWindows
import Derived.Test.YtfljebipoajfpaaDoorCards
import Derived.Test.YtfljebipoajfpaaDoorTie
import Derived.ProofKit
import Derived.OpenShut
import Derived.Deep.DeepHandedRow
import Derived.Deep.Slices
import Derived.Lib.LaidTab
import Derived.Lib.LaidU8
import Derived.Lay
import Derived.MakeChecks
import Derived.Shelf.Vars
import Derived.Carry
namespace Go.Proofs.YtfljebipoajfpaaDoor
open Go.ChangeShapes Go.WideShapes Go.ChangeAt Go.RowKit Go.Deep

theorem own : ownKnob Tryd.prog.godebug = none := by kernel_rfl
theorem laidOut : laidOutB Tryd.prog = true := by kernel_rfl

abbrev laidList : List (String × DataW Unit) := Rows.topWindowsRow.laid

theorem iface_cell {W : World} {name nm : String} {g t : Nat} {ms : Array (String × TypeId)} {d : DataW Unit} (hg : Tryd.prog.globalNamed name = some g) (hty : (Tryd.prog.globals[g]?).map (·.type) = some t)
    (ht : Tryd.prog.underlying t = some (.interface ms)) (h : Lib.VarReads Tryd.prog W name (.iface nm d)) : ∃ ev, W.cell? ⟨g, 0, none⟩ = some ev ∧ (ev = .nilIface ∨ ∃ te pe, ev = .iface te pe) := by
  obtain ⟨g', t', cs, fuel, p, hg', hty', hv, hr⟩ := h
  obtain rfl := Option.some.inj (hg.symm.trans hg')
  obtain rfl := Option.some.inj (hty.symm.trans hty')
  have h0 := World.var?_cell hg hv 0
  obtain ⟨_, u, v, hcs, _, _⟩ := iface_of_trod ht hr
  rw [Array.eq_one_of_toList hcs] at h0
  exact ⟨_, by simpa using h0, Or.inr ⟨u, v, rfl⟩⟩

/-- THE WORLD's THREE VARIABLES, off the row's condition and the world's shape. -/
theorem glob_of {W : World} (hL : laidMetH Tryd.prog laidList W) (hS : W.ShapedOpen Tryd.prog) : Glob W := by
  have hP : laidMet Tryd.prog laidList W := by rw [← MakeChecks.laidMetH_plain _ _ _ (by kernel_rfl)]; exact hL
  refine ⟨?_, ?_, ?_⟩
  · exact Go.Proofs.cell_of_shapedOpen_int (P := Tryd.prog) (g := 0) (zero := #[.int .i64 0]) (t := 3) hS (of_decide_eq_true (by kernel_rfl)) (by kernel_rfl) rfl (by kernel_rfl) (by kernel_rfl) Tryd.underlying3
  · exact iface_cell (name := "strconv.ErrSyntax") (t := 118) (by kernel_rfl) (by kernel_rfl) Tryd.underlying118 (Lib.laidMet.reads hP (.tail _ (.tail _ (.tail _ (.tail _ (.tail _ (.head _)))))))
  · exact iface_cell (name := "strconv.ErrRange") (t := 118) (by kernel_rfl) (by kernel_rfl) Tryd.underlying118 (Lib.laidMet.reads hP (.tail _ (.tail _ (.tail _ (.tail _ (.head _))))))

/-- A WORLD FOR THE WITNESS: the listed variables laid by the function. -/
noncomputable def witWorld (os : Os) : World := World.laidAll Tryd.prog os laidList
theorem wit_met (os : Os) (args : Array Value) : laidMetH Tryd.prog laidList ((witWorld os).forCall (fun _ _ => 0) ⟨#[], args, []⟩).memory := by
  rw [MakeChecks.laidMetH_plain _ _ _ (by kernel_rfl)]
  exact laidMet_laidAll _ (by kernel_rfl) (by kernel_rfl)

end Go.Proofs.YtfljebipoajfpaaDoor
