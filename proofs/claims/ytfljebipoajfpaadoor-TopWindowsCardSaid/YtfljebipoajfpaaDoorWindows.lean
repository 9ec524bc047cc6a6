/- TopWindows: the walk. -/
import Derived.Test.YtfljebipoajfpaaDoorWinLaw
import Derived.Test.YtfljebipoajfpaaDoorAlive
import Derived.Deep.LoopGhost
import Derived.Deep.DeepCutAuto
import Derived.Deep.CutBlock
import Derived.Maps.AppendAt
namespace Go.Proofs.YtfljebipoajfpaaDoor
open Go.RowKit

theorem ownsRow_belowS {B : Nat} {e : TypeId} {k : Nat} {v : Value} {n : Nat} {xs : List Value} {w w' : World} (h : w.ownsRow B e k v n xs) (hb : Below w.heap.size w w') : w'.ownsRow B e k v n xs := by
  obtain ⟨h1, h2⟩ := h
  refine ⟨h1, h2.imp id ?_⟩
  rintro ⟨g, cap, cur, hv, hbg, hg, r⟩
  exact ⟨g, cap, cur, hv, hbg, (hb.block g (by rw [Array.getElem?_eq_some_iff] at hg; exact hg.1)).trans hg, r⟩

def u64s (l : List Nat) : List Value := l.map fun x => .int .u64 (x : Nat)

theorem sl_of_own {B : Nat} {v : Value} {l : List Nat} {w : World} (h : w.ownsRow B 23 1 v l.length (u64s l)) : Sl w v l := by
  rcases h.2 with ⟨rfl, h0⟩ | ⟨g, cap, cur, rfl, hb, hg, hn, hc, hs, ht⟩
  · exact Or.inl ⟨rfl, List.eq_nil_of_length_eq_zero h0⟩
  · refine Or.inr ⟨g, cap, rfl, by have : maxLen = 9223372036854775807 := rfl; omega, fun j hj => ?_⟩
    have e := h.cells (g := g) rfl j (.int .u64 (l[j] : Nat)) (by simp [u64s, hj])
    by_cases h0 : j = 0 <;> simpa [Addr.add, h0] using e

/-- What the loop keeps. -/
structure WinInv (W wr : World) (s4 : Value) (al : List Nat) (most nx s0 s1 : Nat) : Prop where
  seen : Seen al most nx s0 s1
  blk : IsB wr W.heap.size 26 #[.int .u64 nx, .int .u64 s0, .int .u64 s1]
  own : wr.ownsRow (W.heap.size + 1) 23 1 s4 al.length (u64s al)
  below : Below W.heap.size W wr

theorem part_u64 (w : World) (xs : Array Value) (i : Nat) (k : Int) (h : xs[i]? = some (.int .u64 k)) : (part 23 xs (i * 1)).run Tryd.prog w = .ok (.int .u64 k) w := by
  have hi : ∃ j, Tryd.prog.info? 23 = some j ∧ j.size = 1 := by
    have : (Tryd.prog.info? 23).map (·.size) = some 1 := by kernel_rfl
    obtain ⟨j, h1, h2⟩ := Option.map_eq_some_iff.1 this
    exact ⟨j, h1, h2⟩
  obtain ⟨j, h1, h2⟩ := hi
  simp [part, isAgg, run_underlying Tryd.underlying23, sizeOf, typeInfo, h1, h2, h]

theorem eqTwo (d : Nat) (x y : Int) (w : World) :
    (Op.equalIn (d + 2) 24 (.agg #[.int .u64 x, .int .u64 y]) (.agg #[.int .u64 x, .int .u64 y])).run Tryd.prog w = .ok true w := by
  have hi : ∃ j, Tryd.prog.info? 23 = some j ∧ j.size = 1 := by
    have : (Tryd.prog.info? 23).map (·.size) = some 1 := by kernel_rfl
    obtain ⟨j, h1, h2⟩ := Option.map_eq_some_iff.1 this
    exact ⟨j, h1, h2⟩
  obtain ⟨j, h1, h2⟩ := hi
  rw [Op.equalIn]
  simp only [Sem.run_bind, run_underlying Tryd.underlying24, Result.andThen_ok, sizeOf, typeInfo, run_program, h1, h2, Sem.run_pure, Std.Legacy.Range.forIn_eq_forIn_range']
  rw [show Std.Legacy.Range.size [0:2] = 2 from rfl, show List.range' 0 2 1 = [0, 1] from rfl]
  simp only [List.forIn_cons, List.forIn_nil, Sem.run_bind]
  rw [part_u64 w _ 0 x rfl]
  simp only [Result.andThen_ok]
  rw [part_u64 w _ 0 x rfl]
  simp only [Result.andThen_ok]
  rw [run_equalIn_int w d 23 .u64 .u64 _ _ Tryd.underlying23]
  simp only [Result.andThen_ok, beq_self_eq_true, Bool.not_true, Bool.false_eq_true, if_false, Sem.run_pure, Sem.run_bind]
  rw [part_u64 w _ 1 y rfl]
  simp only [Result.andThen_ok]
  rw [part_u64 w _ 1 y rfl]
  simp only [Result.andThen_ok]
  rw [run_equalIn_int w d 23 .u64 .u64 _ _ Tryd.underlying23]
  simp only [Result.andThen_ok, beq_self_eq_true, Bool.not_true, Bool.false_eq_true, if_false, Sem.run_pure]

theorem fieldsWin : (Tryd.prog.fieldsOf 26).toList.map (fun f => (f.name, f.type, f.offset)) = [("next", 23, 0), ("seen", 24, 1)] := by kernel_rfl
theorem eqWinIn (d : Nat) (n x y : Int) (w : World) : (Op.equalIn (d + 3) 26 (.agg #[.int .u64 n, .int .u64 x, .int .u64 y]) (.agg #[.int .u64 n, .int .u64 x, .int .u64 y])).run Tryd.prog w = .ok true w := by
  rw [run_equalIn_agg w (d + 2) 26 _ _ (by kernel_rfl) (by kernel_rfl)]
  have hf := fieldsWin
  generalize (Tryd.prog.fieldsOf 26).toList = fs at hf
  obtain ⟨a, b, rfl⟩ := two_of hf rfl
  simp only [List.map_cons, List.map_nil, List.cons.injEq, Prod.mk.injEq, and_true] at hf
  obtain ⟨⟨a1, a2, a3⟩, b1, b2, b3⟩ := hf
  have p1 : ∀ (n x y : Int) (w : World), (part 23 #[.int .u64 n, .int .u64 x, .int .u64 y] 0).run Tryd.prog w = .ok (.int .u64 n) w := fun _ _ _ _ => by kernel_rfl
  have p2 : ∀ (n x y : Int) (w : World), (part 24 #[.int .u64 n, .int .u64 x, .int .u64 y] 1).run Tryd.prog w = .ok (.agg #[.int .u64 x, .int .u64 y]) w := fun _ _ _ _ => by kernel_rfl
  simp only [Op.eqFields, a1, a2, a3, b1, b2, b3, Sem.run_bind, Sem.run_ite, p1, p2, Result.andThen_ok, run_equalIn_int _ _ 23 _ _ _ _ Tryd.underlying23, eqTwo d]
  have e1 : ("next" ≠ "_") = True := by decide
  have e2 : ("seen" ≠ "_") = True := by decide
  simp only [e1, e2, if_true, beq_self_eq_true]
  rfl
theorem run_neWin (n x y : Int) (w : World) : (binOp .neq 26 (.agg #[.int .u64 n, .int .u64 x, .int .u64 y]) (.agg #[.int .u64 n, .int .u64 x, .int .u64 y])).run Tryd.prog w = .ok (.bool false) w := by
  rw [run_neq_struct]; rw [eqWinIn 9997]; rfl

theorem info_u64 : ∃ i, Tryd.prog.info? 23 = some i ∧ i.zero = some (.int .u64 0) ∧ i.size = 1 ∧ i.bytes = 8 := by
  have h : (Tryd.prog.info? 23).map (fun i => (i.zero, i.size, i.bytes)) = some (some (.int .u64 0), 1, 8) := by kernel_rfl
  obtain ⟨i, h1, h2⟩ := Option.map_eq_some_iff.1 h
  simp only [Prod.mk.injEq] at h2
  exact ⟨i, h1, h2.1, h2.2.1, h2.2.2⟩

theorem cell_lt {w : World} {b o : Nat} {v : Value} (h : w.cell? ⟨b, o, none⟩ = some v) : b < w.heap.size := by
  rcases Nat.lt_or_ge b w.heap.size with h1 | h1
  · exact h1
  · have : w.heap[b]? = none := Array.getElem?_eq_none h1
    simp [World.cell?, this] at h

theorem WinInv.later {W wr w' : World} {s4 : Value} {al : List Nat} {most nx s0 s1 : Nat} (h : WinInv W wr s4 al most nx s0 s1) (hb : Below wr.heap.size wr w') : WinInv W w' s4 al most nx s0 s1 :=
  ⟨h.seen, h.blk.belowS hb, ownsRow_belowS h.own hb, h.below.trans (hb.mono h.below.size)⟩

theorem Seen.after {al : List Nat} {most nx s0 s1 n t0 t1 t2 : Nat} (h : Seen al most nx s0 s1) (hc : Win.check nx s0 s1 n ≠ 0) (hT : (if Win.check nx s0 s1 n = 0 then Win.take nx s0 s1 n else (nx, s0, s1)) = (t0, t1, t2)) : nx = t0 ∧ s0 = t1 ∧ s1 = t2 := by
  rw [if_neg hc] at hT; simpa using hT

theorem Seen.after0 {al : List Nat} {most nx s0 s1 n t0 t1 t2 : Nat} (h : Seen al most nx s0 s1) (hc : Win.check nx s0 s1 n = 0) (hT : (if Win.check nx s0 s1 n = 0 then Win.take nx s0 s1 n else (nx, s0, s1)) = (t0, t1, t2)) : Seen (al ++ [n]) (max most n) t0 t1 t2 := by
  rw [if_pos hc] at hT
  have := h.take hc
  rw [hT] at this; exact this

set_option maxHeartbeats 4000000 in
set_option maxRecDepth 100000 in
theorem windows_walk (b off len cap : Nat) (x : Nat → Nat → Nat) (w : World) (hG : Glob w) (hlen : len ≤ 9223372036854775807) (hx : ∀ i j, x i j < 256)
    (hc0 : ∀ i, i < len → w.cell? ⟨b, off + i * 2, none⟩ = some (.int .u8 (x i 0 : Nat)))
    (hc1 : ∀ i, i < len → w.cell? ⟨b, off + i * 2 + 1, none⟩ = some (.int .u8 (x i 1 : Nat))) :
    Calls Tryd.prog 3 #[.slice (some ⟨b, off, none⟩) len cap] w fun e w' => e = .returned (.bool true) ∧ Below w.heap.size w w' := by
  have HX := Lib.hid hx
  clear hx
  have HC0 := Lib.hid hc0
  have HC1 := Lib.hid hc1
  clear hc0 hc1
  go_enter Tryd.func3, Tryd.ntmps3
  repeat' (first | go_values | go_skip | go_guarded | go_step | go_upon)
  go_loopg [4, 5, 6, 7] 100 (fun k s4 s5 s6 s7 wr => ∃ (i : Nat) (al : List Nat) (most nx s0 s1 : Nat), k = 100 - i ∧ i ≤ 100 ∧ s5 = .int .u64 most ∧ s6 = .bool (!al.isEmpty) ∧ s7 = .int .i64 i ∧ Hid (al.length ≤ i) ∧ Hid (WinInv w wr s4 al most nx s0 s1))
  case atStart => exact ⟨0, [], 0, 0, 0, 0, rfl, by omega, rfl, rfl, rfl, Lib.hid (Nat.le_refl _), Lib.hid ⟨Seen.start, IsB.of_new _ _ _ rfl, World.ownsRow_nil _ _ _ _, (Below.refl _ _).alloc (Nat.le_refl _) _⟩⟩
  case round =>
    obtain ⟨i, al, most, nx, s0, s1, rfl, hi, rfl, rfl, rfl, HA, HI⟩ := hrel
    by_cases hlt : i < len
    · have d0 : decide (i < len) = true := decide_eq_true hlt
      by_cases h100 : i < 100
      · have d1 : decide ((i : Int) < 100) = true := decide_eq_true (by omega)
        have B0 := HI.out.blk
        have c0 : wr.cell? ⟨b, off + i * 2, none⟩ = some (.int .u8 (x i 0 : Nat)) := (HI.out.below.cell (p := ⟨b, off + i * 2, none⟩) (cell_lt (HC0.out i hlt))).trans (HC0.out i hlt)
        have c1 : wr.cell? ⟨b, off + i * 2 + 1, none⟩ = some (.int .u8 (x i 1 : Nat)) := (HI.out.below.cell (p := ⟨b, off + i * 2 + 1, none⟩) (cell_lt (HC1.out i hlt))).trans (HC1.out i hlt)
        have hp := HX.out i 0
        have hq := HX.out i 1
        generalize x i 0 = p at *
        generalize x i 1 = q at *
        have hm : most < 18446744073709543423 := HI.out.seen.most_lt
        go_upto_block 2 with fail
        go_cut [8] from 15 to 171 (fun v wx => wx = wr ∧ ∃ n : Nat, v = .int .u64 n ∧ Hid (n < 18446744073709551616))
        case first => as_aux_lemma =>
          clear HX HC0 HC1 hG hlen HI B0 HA
          by_cases e0 : (q : Int) % 8 = 0
          · go_wp2_with fail
            go_meet
            exact ⟨rfl, most + p % 4, by simp, Lib.hid (by omega)⟩
          have f0 : ((q : Int) % 8 == 0) = false := beq_eq_false_iff_ne.mpr e0
          clear e0
          by_cases e1 : (q : Int) % 8 = 1
          · go_wp2_with fail
            go_meet
            refine ⟨rfl, most - min most p, ?_, Lib.hid (by omega)⟩
            exact congrArg (Value.int IntKind.u64) (by omega)
          have f1 : ((q : Int) % 8 == 1) = false := beq_eq_false_iff_ne.mpr e1
          clear e1
          by_cases e2 : (q : Int) % 8 = 2
          · go_wp2_with fail
            go_meet
            exact ⟨rfl, most + p * 3, by simp, Lib.hid (by omega)⟩
          have f2 : ((q : Int) % 8 == 2) = false := beq_eq_false_iff_ne.mpr e2
          clear e2
          by_cases e3 : (q : Int) % 8 = 3
          · by_cases h250 : 250 < p
            · go_wp2_with fail
              go_meet
              exact ⟨rfl, 18446744073709543422 + p % 2, by simp, Lib.hid (by omega)⟩
            · have d2 : decide (250 < p) = false := decide_eq_false h250
              go_wp2_with fail
              go_meet
              exact ⟨rfl, p, by simp, Lib.hid (by omega)⟩
          have f3 : ((q : Int) % 8 == 3) = false := beq_eq_false_iff_ne.mpr e3
          clear e3
          go_wp2_with fail
          go_meet
          exact ⟨rfl, p, by simp, Lib.hid (by omega)⟩
        case rest =>
          obtain ⟨rfl, n, rfl, HN⟩ := hcut
          clear hm
          have SL := sl_of_own HI.out.own
          repeat' (first | go_values | go_skip | go_guarded | go_step | go_upon)
          refine (contains_any u4 al n _ HN.out SL).mono ?_
          rintro e w1 ⟨rfl, hb1⟩
          dsimp only
          have HB1 := Lib.hid hb1
          clear hb1 SL
          go_upto_block 3 with fail
          go_cut [10] from 15 to 171 (fun v wx => wx = w1 ∧ v = .int .i64 (Win.check nx s0 s1 n))
          case first => as_aux_lemma =>
            have HC := Lib.hid (HI.out.seen.check n)
            have HM := Lib.hid HI.out.seen.most_lt
            clear HX HC0 HC1 hG hlen HI B0 HA c0 c1 HB1
            generalize decide (n ∈ al) = was at *
            generalize al.isEmpty = em at *
            by_cases h0 : 18446744073709543423 ≤ n
            · have d0 : decide ((18446744073709543423 : Int) ≤ n) = true := decide_eq_true (by omega)
              have H0 := Lib.hid h0
              clear h0
              repeat' (first | go_values | go_skip | go_guarded | go_step | go_upon)
              go_meet
              exact ⟨rfl, by rw [HC.out, if_pos H0.out]⟩
            have d0 : decide ((18446744073709543423 : Int) ≤ n) = false := decide_eq_false (by omega)
            have H0 := Lib.hid h0
            clear h0
            cases was
            · cases em
              · by_cases h1 : n < most
                · have d1 : decide (n < most) = true := decide_eq_true h1
                  have hm := HM.out
                  by_cases h2 : 128 ≤ most - n
                  · have d2 : decide (128 ≤ (most : Int) - n) = true := decide_eq_true (by omega)
                    have H2 := Lib.hid h2
                    clear h2
                    repeat' (first | go_values | go_skip | go_guarded | go_step | go_upon)
                    go_meet
                    exact ⟨rfl, by rw [HC.out, if_neg H0.out, decide_eq_true h1, decide_eq_true H2.out]; rfl⟩
                  · have d2 : decide (128 ≤ (most : Int) - n) = false := decide_eq_false (by omega)
                    have H2 := Lib.hid h2
                    clear h2
                    repeat' (first | go_values | go_skip | go_guarded | go_step | go_upon)
                    go_meet
                    exact ⟨rfl, by rw [HC.out, if_neg H0.out, decide_eq_true h1, decide_eq_false H2.out]; rfl⟩
                · have d1 : decide (n < most) = false := decide_eq_false h1
                  have H1 := Lib.hid h1
                  clear h1
                  repeat' (first | go_values | go_skip | go_guarded | go_step | go_upon)
                  go_meet
                  exact ⟨rfl, by rw [HC.out, if_neg H0.out, decide_eq_false H1.out]; rfl⟩
              · repeat' (first | go_values | go_skip | go_guarded | go_step | go_upon)
                go_meet
                exact ⟨rfl, by rw [HC.out, if_neg H0.out]; rfl⟩
            · repeat' (first | go_values | go_skip | go_guarded | go_step | go_upon)
              go_meet
              exact ⟨rfl, by rw [HC.out, if_neg H0.out]; rfl⟩
          case rest =>
            obtain ⟨rfl, rfl⟩ := hcut
            have I1 := Lib.hid (HI.out.later HB1.out)
            clear HI HB1 B0 c0 c1
            go_upto_region 24 with fail
            go_cut [11, 12] from 15 to 171 (fun v11 v12 wx => v12 = .int .i64 (Win.check nx s0 s1 n) ∧ ∃ t0 t1 t2 g1 : Nat, v11 = .pointer (some ⟨g1, 0, none⟩) ∧ w.heap.size < g1 ∧ Hid ((if Win.check nx s0 s1 n = 0 then Win.take nx s0 s1 n else (nx, s0, s1)) = (t0, t1, t2)) ∧ Hid (IsB wx g1 26 #[.int .u64 t0, .int .u64 t1, .int .u64 t2]) ∧ Hid (WinInv w wx u4 al most nx s0 s1))
            case first => as_aux_lemma =>
              have B0 := I1.out.blk
              have cb := B0.cell
              have fb := B0.free
              repeat' (first | go_values | go_skip | go_guarded | go_step | go_upon)
              refine (take_any nx s0 s1 n _ I1.out.seen.nx_lt HN.out I1.out.seen.s0_lt I1.out.seen.s1_lt).mono ?_
              rintro e w2 ⟨rfl, hb2⟩
              dsimp only
              generalize hT : (if Win.check nx s0 s1 n = 0 then Win.take nx s0 s1 n else (nx, s0, s1)) = T at *
              have HT := Lib.hid hT
              clear hT cb fb
              obtain ⟨t0, t1, t2⟩ := T
              unfold winV
              have I2 := Lib.hid (I1.out.later hb2)
              have hl2 := I2.out.blk.lt
              clear hb2
              repeat' (first | go_values | go_skip | go_guarded | go_step | go_upon)
              go_meet
              refine ⟨rfl, t0, t1, t2, w2.heap.size, rfl, hl2, Lib.hid rfl, Lib.hid (IsB.of_new _ _ _ rfl), Lib.hid (I2.out.later (by go_grown))⟩
            case rest =>
              obtain ⟨rfl, t0, t1, t2, g1, rfl, hg1, HT, HB1, I2⟩ := hcut
              go_upto_region 25 with fail
              go_cut [133] from 15 to 171 (fun v wx => v = .bool false ∧ Below wc.heap.size wc wx)
              case first => as_aux_lemma =>
                have B0 := I2.out.blk
                have B1 := HB1.out
                have cb := B0.cell
                have fb := B0.free
                have cb1 := B1.cell
                have fb1 := B1.free
                repeat' (first | go_values | go_skip | go_guarded | go_step | go_upon)
                refine (check_any nx s0 s1 n _ I2.out.seen.nx_lt HN.out I2.out.seen.s0_lt I2.out.seen.s1_lt).mono ?_
                rintro e w3 ⟨rfl, hb3⟩
                dsimp only
                have C0 := B0.belowS hb3
                have C1 := B1.belowS hb3
                clear cb fb cb1 fb1 B0 B1
                have cb := C0.cell
                have fb := C0.free
                have cb1 := C1.cell
                have fb1 := C1.free
                by_cases hc : Win.check nx s0 s1 n = 0
                · generalize Win.check nx s0 s1 n = c at *
                  have dc : (c != 0) = false := by rw [hc]; rfl
                  have HC := Lib.hid hc
                  clear hc
                  repeat' (first | go_values | go_skip | go_guarded | go_step | go_upon)
                  go_meet
                  exact ⟨rfl, hb3⟩
                · obtain ⟨rfl, rfl, rfl⟩ := I2.out.seen.after hc HT.out
                  generalize Win.check nx s0 s1 n = c at *
                  have dc : (c != 0) = true := by simpa using hc
                  have HC := Lib.hid hc
                  clear hc
                  have hne := run_neWin nx s0 s1
                  repeat' (first | go_values | go_skip | go_guarded | go_step | go_upon)
                  go_meet
                  exact ⟨rfl, hb3⟩
              case rest =>
                obtain ⟨rfl, hb3⟩ := hcut
                have I3 := Lib.hid (I2.out.later hb3)
                have B1 := HB1.out.belowS hb3
                have HB2 := Lib.hid B1
                clear hb3 B1 HB1 I2
                go_upto_region 27 with fail
                go_cut [134] from 15 to 171 (fun v wx => Below w.heap.size w wx ∧ IsB wx w.heap.size 26 #[.int .u64 t0, .int .u64 t1, .int .u64 t2] ∧ wx.ownsRow (w.heap.size + 1) 23 1 u4 al.length (u64s al))
                case first => as_aux_lemma =>
                  have B0 := I3.out.blk
                  have B1 := HB2.out
                  have cb := B0.cell
                  have cb1 := B1.cell
                  have fb := B0.free
                  have fb1 := B1.free
                  repeat' (first | go_values | go_skip | go_guarded | go_step | go_upon)
                  go_meet
                  refine ⟨?_, ((B0.put 0 _).put 1 _).put 2 _, ?_⟩
                  · exact ((I3.out.below.setCell (Nat.le_refl _) _).setCell (Nat.le_refl _) _).setCell (Nat.le_refl _) _
                  · exact ownsRow_setCell_below (ownsRow_setCell_below (ownsRow_setCell_below I3.out.own (by simp) _) (by simp) _) (by simp) _
                case rest =>
                  obtain ⟨bw4, B4, own4⟩ := hcut
                  have H4 := Lib.hid (show _ ∧ _ ∧ _ from ⟨bw4, B4, own4⟩)
                  have HS := Lib.hid I3.out.seen
                  clear bw4 B4 own4 HB2 I3
                  go_upto_if 136 with fail
                  go_cut [4, 5, 6] from 15 to 171 (fun v4 v5 v6 wx => ∃ (al' : List Nat) (most' : Nat), v5 = .int .u64 most' ∧ v6 = .bool (!al'.isEmpty) ∧ Hid (al'.length ≤ i + 1) ∧ Hid (WinInv w wx v4 al' most' t0 t1 t2))
                  case first => as_aux_lemma =>
                    by_cases hc : Win.check nx s0 s1 n = 0
                    · have hS := HS.out.after0 hc HT.out
                      have HS2 := Lib.hid hS
                      clear hS
                      have HC := Lib.hid hc
                      have hal : al.length ≤ 100 := Nat.le_trans HA.out hi
                      have hal' : al.length ≤ i := HA.out
                      clear hc HT HS
                      obtain ⟨i0, hi0, hz0, hz1, hz2⟩ := info_u64
                      have dc : (Win.check nx s0 s1 n == 0) = true := by rw [HC.out]; rfl
                      have hlt4 := H4.out.2.1.lt
                      have hM := HS2.out.most_lt
                      go_wp2_with (at_builtin; refine wpList_append_own_at _ rfl _ _ 27 rfl (w.heap.size + 1) 23 i0 (.int .u64 0) 1 8 Tryd.underlying27 hi0 hz0 hz1 hz2 rfl (by decide) _ _ _ rfl (H4.out.2.2.alloc _) ⟨wc.heap.size, 0, none⟩ 1 1 [.int .u64 n] rfl rfl (cell_one_new _ _ _) (by simp [Value.oneCell']) (by unfold maxLen; omega) (by omega) (by simp; omega) ?_; intro v' w5 hown' hgrow hnil hloc)
                      go_meet
                      refine ⟨al ++ [n], max most n, ?_, by simp, Lib.hid (by simp; omega), Lib.hid ⟨HS2.out, ?_, ?_, ?_⟩⟩
                      · exact congrArg (Value.int IntKind.u64) (by omega)
                      · have hx := hgrow.block w.heap.size (by simp; omega) (fun e => by have := (H4.out.2.2.lt _ e.symm).1; omega)
                        exact hx.trans ((H4.out.2.1.alloc _))
                      · rw [List.length_append, show u64s (al ++ [n]) = u64s al ++ [.int .u64 (n : Nat)] by simp [u64s]]
                        exact hown'
                      · exact (H4.out.1.alloc (Nat.le_of_lt hlt4) _).grown hgrow (by simp; omega) (fun k hk => by have := (H4.out.2.2.lt _ hk).1; omega)
                    · have dc : (Win.check nx s0 s1 n == 0) = false := beq_eq_false_iff_ne.mpr hc
                      obtain ⟨rfl, rfl, rfl⟩ := HS.out.after hc HT.out
                      have HC := Lib.hid hc
                      clear hc
                      repeat' (first | go_values | go_skip | go_guarded | go_step | go_upon)
                      go_meet
                      exact ⟨al, most, rfl, rfl, Lib.hid (Nat.le_trans HA.out (by omega)), Lib.hid ⟨HS.out, H4.out.2.1, H4.out.2.2, H4.out.1⟩⟩
                  case rest =>
                    obtain ⟨al2, most2, rfl, rfl, HA2, HI2⟩ := hcut
                    clear HT HA H4 HS
                    go_upto_if 144 with fail
                    go_cut [13] from 15 to 171 (fun v wx => wx = wc ∧ v = .int .u64 t0)
                    case first => as_aux_lemma =>
                      have hN := HI2.out.seen.nx_eq
                      have hM := HI2.out.seen.most_lt
                      by_cases he : al2 = []
                      · have de : al2.isEmpty = true := by simp [he]
                        rw [if_pos he] at hN
                        have HN2 := Lib.hid hN
                        clear he hN
                        generalize al2.isEmpty = em at *
                        subst de
                        repeat' (first | go_values | go_skip | go_guarded | go_step | go_upon)
                        go_meet
                        exact ⟨rfl, by rw [HN2.out]; rfl⟩
                      · have de : al2.isEmpty = false := by simp [he]
                        rw [if_neg he] at hN
                        have HN2 := Lib.hid hN
                        clear he hN
                        generalize al2.isEmpty = em at *
                        subst de
                        repeat' (first | go_values | go_skip | go_guarded | go_step | go_upon)
                        go_meet
                        exact ⟨rfl, by rw [HN2.out]; simp⟩
                    case rest =>
                      obtain ⟨rfl, rfl⟩ := hcut
                      go_upto_region 33 with fail
                      go_cut [14] from 15 to 171 (fun v wx => v = .bool (Win.has t0 t1 t2 n) ∧ Hid (WinInv w wx u4 al2 most2 t0 t1 t2))
                      case first => as_aux_lemma =>
                        have SL := sl_of_own HI2.out.own
                        repeat' (first | go_values | go_skip | go_guarded | go_step | go_upon)
                        refine (contains_any u4 al2 n _ HN.out SL).mono ?_
                        rintro e w6 ⟨rfl, hb6⟩
                        dsimp only
                        have HI3 := Lib.hid (HI2.out.later hb6)
                        clear hb6 SL
                        have HH := Lib.hid (HI2.out.seen.has n)
                        by_cases hm : n ∈ al2
                        · have dm : decide (n ∈ al2) = true := decide_eq_true hm
                          have hle := HI2.out.seen.le n hm
                          have hM := HI2.out.seen.most_lt
                          clear hm
                          generalize decide (n ∈ al2) = dd at *
                          by_cases h1 : most2 - n < 128
                          · have d1 : decide ((most2 : Int) - n < 128) = true := decide_eq_true (by omega)
                            repeat' (first | go_values | go_skip | go_guarded | go_step | go_upon)
                            go_meet
                            exact ⟨by rw [HH.out, dm, decide_eq_true h1]; rfl, HI3⟩
                          · have d1 : decide ((most2 : Int) - n < 128) = false := decide_eq_false (by omega)
                            have H1 := Lib.hid h1
                            clear h1
                            repeat' (first | go_values | go_skip | go_guarded | go_step | go_upon)
                            go_meet
                            exact ⟨by rw [HH.out, dm, decide_eq_false H1.out]; rfl, HI3⟩
                        · have dm : decide (n ∈ al2) = false := decide_eq_false hm
                          clear hm
                          generalize decide (n ∈ al2) = dd at *
                          repeat' (first | go_values | go_skip | go_guarded | go_step | go_upon)
                          go_meet
                          exact ⟨by rw [HH.out, dm]; rfl, HI3⟩
                      case rest =>
                        obtain ⟨rfl, HI3⟩ := hcut
                        clear HI2
                        have B0 := HI3.out.blk
                        have cb := B0.cell
                        repeat' (first | go_values | go_skip | go_guarded | go_step | go_upon)
                        refine (next_any t0 t1 t2 _).mono ?_
                        rintro e w7 ⟨rfl, hb7⟩
                        dsimp only
                        have HI4 := Lib.hid (HI3.out.later hb7)
                        clear hb7 HI3 B0 cb
                        have B0 := HI4.out.blk
                        have cb := B0.cell
                        by_cases h1 : n ≤ most2
                        · have d1 : decide (n ≤ most2) = true := decide_eq_true h1
                          repeat' (first | go_values | go_skip | go_guarded | go_step | go_upon)
                          refine (has_any t0 t1 t2 n _ HI4.out.seen.nx_lt HN.out HI4.out.seen.s0_lt HI4.out.seen.s1_lt).mono ?_
                          rintro e w8 ⟨rfl, hb8⟩
                          dsimp only
                          have HI5 := Lib.hid (HI4.out.later hb8)
                          clear hb8 HI4 B0 cb
                          generalize Win.has t0 t1 t2 n = hv at *
                          cases hv
                          · repeat' (first | go_values | go_skip | go_guarded | go_step | go_upon)
                            go_roundg (100 - (i + 1))
                            case measure => omega
                            case rel => exact ⟨i + 1, al2, most2, t0, t1, t2, rfl, by omega, rfl, rfl, by go_num, HA2, HI5⟩
                          · repeat' (first | go_values | go_skip | go_guarded | go_step | go_upon)
                            go_roundg (100 - (i + 1))
                            case measure => omega
                            case rel => exact ⟨i + 1, al2, most2, t0, t1, t2, rfl, by omega, rfl, rfl, by go_num, HA2, HI5⟩
                        · have d1 : decide (n ≤ most2) = false := decide_eq_false h1
                          repeat' (first | go_values | go_skip | go_guarded | go_step | go_upon)
                          go_roundg (100 - (i + 1))
                          case measure => omega
                          case rel => exact ⟨i + 1, al2, most2, t0, t1, t2, rfl, by omega, rfl, rfl, by go_num, HA2, HI4⟩
      · have d1 : decide ((i : Int) < 100) = false := decide_eq_false (by omega)
        have HB := Lib.hid HI.out.below
        clear HI HX HC0 HC1
        repeat' (first | go_values | go_skip | go_guarded | go_step | go_upon)
        refine (alive07_any _ (hG.below HB.out)).mono ?_
        rintro e w1 ⟨rfl, hb⟩
        dsimp only
        repeat' (first | go_values | go_skip | go_guarded | go_step | go_upon)
        go_ret
        exact ⟨rfl, HB.out.trans (hb.mono HB.out.size)⟩
    · have d0 : decide (i < len) = false := decide_eq_false hlt
      have HB := Lib.hid HI.out.below
      clear HI HX HC0 HC1
      repeat' (first | go_values | go_skip | go_guarded | go_step | go_upon)
      refine (alive07_any _ (hG.below HB.out)).mono ?_
      rintro e w1 ⟨rfl, hb⟩
      dsimp only
      repeat' (first | go_values | go_skip | go_guarded | go_step | go_upon)
      go_ret
      exact ⟨rfl, HB.out.trans (hb.mono HB.out.size)⟩

set_option maxRecDepth 100000 in
theorem windows_nil (q : Option Addr) (cap : Nat) (w : World) (hG : Glob w) :
    Calls Tryd.prog 3 #[.slice q 0 cap] w fun e w' => e = .returned (.bool true) ∧ Below w.heap.size w w' := by
  have HG := Lib.hid hG
  clear hG
  go_enter Tryd.func3, Tryd.ntmps3
  repeat' (first | go_values | go_skip | go_guarded | go_step | go_upon)
  refine wp_loop_rounds 1 ?_
  rw [rounds_succ]
  repeat' (first | go_values | go_skip | go_guarded | go_step | go_upon)
  have hb0 : Below w.heap.size w (w.alloc (.cells #[.int .u64 0, .int .u64 0, .int .u64 0] 26)) := (Below.refl _ _).alloc (Nat.le_refl _) _
  refine (alive07_any _ (HG.out.below hb0)).mono ?_
  rintro e w1 ⟨rfl, hb⟩
  dsimp only
  repeat' (first | go_values | go_skip | go_guarded | go_step | go_upon)
  go_ret
  exact ⟨rfl, hb0.trans (hb.mono hb0.size)⟩

end Go.Proofs.YtfljebipoajfpaaDoor
