/- TopWindows: the card: whatever the input, it returns true, and the input reads as it did. -/
import Derived.Test.YtfljebipoajfpaaDoorWrap
namespace Go.Proofs.YtfljebipoajfpaaDoor
open Go.ChangeShapes Go.WideShapes Go.ChangeAt Go.RowKit Go.Deep

theorem add_none (b o k : Nat) : (⟨b, o, none⟩ : Addr).add k = ⟨b, o + k, none⟩ := by
  unfold Addr.add; split
  · subst_vars; rfl
  · rfl

theorem byte_of {H : Type} {enc : TypeId × Value → H} {W : World} {base : Nat} {sp : Nat → Bool} {held : Bool} {n : Nat} {v : Value} {y : Option (DataW H × List MemPlace)} {x : DataW H × List MemPlace}
    (h : DataW.trod enc Tryd.prog W base sp held n 5 [v] = y) (hy : y = some x) : ∃ z : Nat, v = .int .u8 (z : Nat) ∧ z < 256 := by
  rw [hy] at h
  obtain ⟨z, hz, _, hwf⟩ := DataW.trod_int Tryd.underlying5 h
  simp only [List.cons.injEq, and_true] at hz
  have hb : 0 ≤ z ∧ z < 256 := by
    simp [Lit.wf, IntKind.min, IntKind.max, IntKind.signed, IntKind.bits] at hwf
    omega
  exact ⟨z.toNat, by rw [hz, Int.toNat_of_nonneg hb.1], by omega⟩

set_option maxRecDepth 100000 in
/-- A slice of pairs of bytes, opened: nil, or its cells. -/
theorem open_pairs {H : Type} {enc : TypeId × Value → H} {W : World} {v : Value} {d : DataW H} {ps : List MemPlace}
    {base : Nat} (hval : Value.okWide Tryd.prog W .any base 22 v) (h : DataW.Trod enc Tryd.prog W 0 (fun _ => true) true 22 v d ps) :
    (∃ q cap, v = .slice q 0 cap) ∨ ∃ (b off len cap : Nat) (x : Nat → Nat → Nat), v = .slice (some ⟨b, off, none⟩) len cap ∧ len ≤ 9223372036854775807 ∧ (∀ i j, x i j < 256) ∧
      (∀ i, i < len → W.cell? ⟨b, off + i * 2, none⟩ = some (.int .u8 (x i 0 : Nat))) ∧ (∀ i, i < len → W.cell? ⟨b, off + i * 2 + 1, none⟩ = some (.int .u8 (x i 1 : Nat))) := by
  obtain ⟨a1, len1, cap1, rfl⟩ := okWide_slice Tryd.underlying22 hval
  obtain ⟨fuel, hf⟩ := h
  rcases open_slice Tryd.underlying22 hf with ⟨hcs, _⟩ | ⟨a, len, cap, m, n, D, Pl, hcs, hb, hl, hm, hmm, hx, hel⟩
  · left
    simp only [Value.cells, List.cons.injEq, and_true] at hcs
    exact ⟨_, _, by simpa using hcs⟩
  simp only [Value.cells, List.cons.injEq, Value.slice.injEq, and_true] at hcs
  obtain ⟨rfl, rfl, rfl⟩ : a1 = some a ∧ len1 = len ∧ cap1 = cap := by simpa [Value.cells] using hcs
  have hcap : m = cap1 := by simpa using hmm
  subst hcap
  have hpair : ∀ i, i < len1 → ∃ z0 z1 : Nat, z0 < 256 ∧ z1 < 256 ∧ W.cell? (a.add (i * 2)) = some (.int .u8 (z0 : Nat)) ∧ W.cell? ((a.add (i * 2)).add 1) = some (.int .u8 (z1 : Nat)) := by
    intro i hi
    obtain ⟨cs', hc', ht'⟩ := hel i (by omega)
    rw [show Tryd.prog.cellsOf 28 = 2 by kernel_rfl] at hc'
    obtain ⟨_, hlen, hat⟩ := World.cells?_some hc'
    obtain ⟨xs, k, _, _, hl2, hxl, hxe⟩ := DataW.trod_array Tryd.underlying28 ht'
    rw [show Tryd.prog.cellsOf 5 = 1 by kernel_rfl] at hxe
    match cs', hlen with
    | [c0, c1], _ =>
      match xs, hxl with
      | [y0, y1], _ =>
        have h0 := hxe 0 (by omega)
        have h1 := hxe 1 (by omega)
        simp only [Nat.zero_mul, List.drop_zero, List.take_succ_cons, List.take_zero, Nat.one_mul, List.drop_succ_cons, List.getElem?_cons_zero, List.getElem?_cons_succ] at h0 h1
        obtain ⟨z0, rfl, b0⟩ := byte_of h0 rfl
        obtain ⟨z1, rfl, b1⟩ := byte_of h1 rfl
        have g0 := hat 0 (by omega)
        have g1 := hat 1 (by omega)
        exact ⟨z0, z1, b0, b1, by simpa [Addr.add] using g0, by simpa using g1⟩
  by_cases h0 : len1 = 0
  · subst h0
    exact Or.inl ⟨_, _, rfl⟩
  · right
    obtain ⟨b, off, spot⟩ := a
    have hs : spot = none := by
      obtain ⟨z0, _, _, _, hc, _⟩ := hpair 0 (by omega)
      simpa [Addr.add] using World.cell?_spot hc
    subst hs
    refine ⟨b, off, len1, m, fun i j => if h : i < len1 then (if j = 0 then (hpair i h).choose else (hpair i h).choose_spec.choose) else 0, rfl, by unfold maxLen at hm; omega, ?_, ?_, ?_⟩
    · intro i j
      dsimp only
      split
      · rename_i h
        split
        · exact (hpair i h).choose_spec.choose_spec.1
        · exact (hpair i h).choose_spec.choose_spec.2.1
      · omega
    · intro i hi
      have := (hpair i hi).choose_spec.choose_spec.2.2.1
      simpa [hi, add_none] using this
    · intro i hi
      have := (hpair i hi).choose_spec.choose_spec.2.2.2
      simpa [hi, add_none] using this

set_option maxRecDepth 100000 in
theorem windows_walk_any {H : Type} {enc : TypeId × Value → H} {W : World} {v : Value} {d : DataW H} {ps : List MemPlace} (hG : Glob W)
    {base : Nat} (hval : Value.okWide Tryd.prog W .any base 22 v) (h : DataW.Trod enc Tryd.prog W 0 (fun _ => true) true 22 v d ps) :
    Calls Tryd.prog 3 #[v] W fun e w' => e = .returned (.bool true) ∧ Below W.heap.size W w' := by
  rcases open_pairs hval h with ⟨q, cap, rfl⟩ | ⟨b, off, len, cap, x, rfl, hl, hx, h0, h1⟩
  · exact windows_nil q cap W hG
  · exact windows_walk b off len cap x W hG hl hx h0 h1

set_option maxRecDepth 100000 in
theorem windows_contract (H : Type) (enc : TypeId × Value → H) (W : World) (base : Nat) (args : Array Value) (ds gs : List (DataW H)) (before : List MemPlace)
    (hval : ∀ (j : Nat) t v, Tryd.f3.params[j]? = some t → args[j]? = some v → Value.okWide Tryd.prog W .any base t v)
    (hW : DataW.Whole enc Tryd.prog Tryd.f3.params.toList Rows.topWindowsSpec.vars false W args.toList ds gs before) (hG : Glob W) :
    Calls Tryd.prog 3 args W fun e W' => ∃ v, e = .returned v ∧ Rows.topWindowsSpec.post enc Tryd.prog Tryd.f3 false true false false W args v W' := by
  have hW' := hW
  obtain ⟨p, q, hA0, hV, rfl, hfz, hnd⟩ := hW
  have hA : DataW.TrodAll enc Tryd.prog W 0 (fun _ => true) true Tryd.f3.params.toList args.toList ds p := hA0
  rw [Tryd.params3] at hA hval
  obtain ⟨v0, d0, hargs, rfl, h0⟩ := trodAll_one hA
  obtain ⟨rfl, rfl⟩ := trodVars_none hV
  obtain rfl : args = #[v0] := by cases args; simp_all
  clear hA0
  simp only [List.append_nil] at hW'
  have hlt : ∀ x ∈ p, x.block < W.heap.size := fun x hx => by simpa using hW'.lt x hx
  refine (windows_walk_any hG (hval 0 22 v0 rfl rfl) h0).mono fun e W' ⟨he, hb⟩ => ?_
  subst he
  refine ⟨_, rfl, _, _, _, [], p, [], hW', ?_, ?_, ?_, hb.frame _, fun h => by cases h⟩
  · exact trodAll_mk1 (shut_bool Tryd.underlying4 _)
  · exact trodAll_mk1 (Below.trod laidOut (by kernel_rfl) (of_decide_eq_true (by kernel_rfl)) h0 hb hlt)
  · rfl

theorem windows_reads (os : Os) {H : Type} (enc : TypeId × Value → H) : ∃ places, DataW.whole enc Tryd.prog ((witWorld os).forCall (fun _ _ => 0) ⟨#[], #[.slice none 0 0], []⟩).memory Tryd.f3.params.toList Rows.topWindowsSpec.vars false #[Value.slice none 0 0].toList 8 = some ([.nil], [], places) :=
  ⟨[], by kernel_rfl⟩

set_option maxRecDepth 100000 in
theorem windows_lifted (os : Os) (started : os.Started) (H : Type) (enc : TypeId × Value → H) (F : Stop.Interp) :
    ReturnsInHanded {} Tryd.checked os 3 .any ((OpenSpec.ofChange Rows.topWindowsSpec).preRow enc Tryd.prog Tryd.f3 Rows.topWindowsRow.domain false Rows.topWindowsRow.laid) (((OpenSpec.ofChange Rows.topWindowsSpec).at F).post enc Tryd.prog Tryd.f3 false true false false) := by
  obtain ⟨places, hx⟩ := windows_reads os enc
  refine returnsInHanded_of_row (C := Tryd.checked) (s := OpenSpec.ofChange Rows.topWindowsSpec) own started (by kernel_rfl) Tryd.func3
    ⟨witWorld os, fun _ _ => 0, ⟨#[], #[.slice none 0 0], []⟩, World.laidAll_os _ _ _, World.shaped_of_ZipB (by kernel_rfl) (by kernel_rfl), rfl, (Input.okWide_of_okWideB (by kernel_rfl)).2,
      OpenSpec.preRow_of_cond 8 hx (by kernel_rfl) (fun k hk => by cases hk) (by kernel_rfl) (wit_met os _), by
        simp only [Assume.holds]
        exact ⟨by simp, by simp, fun _ => Modest.zero, by simp, by simp⟩⟩ ?_
  intro W base args ds gs before hval hW _ _ _ hL hS _
  exact windows_contract H enc W base args ds gs before hval hW (glob_of hL hS)

theorem windows_said : Rows.TopWindowsSaid :=
  OpenClaim.holds_of_cond 3 Tryd.f3 rfl rfl rfl rfl rfl rfl rfl ⟨rfl, rfl, rfl, rfl, rfl⟩ rfl rfl rfl rfl rfl (by kernel_rfl) Tryd.func3 (by kernel_rfl)
    (of_decide_eq_true (by kernel_rfl)) (by unfold Func.isWrapper; first | (rw [if_pos (by decide +kernel)]; kernel_rfl) | (rw [if_neg (by decide +kernel)]; exact ⟨rfl, rfl⟩))
    (fun os started H enc _ F => by rw [OpenClaim.pre_eq_preRow]; exact windows_lifted os started H enc F)

theorem windows_plain (f : FuncId) (fn : Func) (hf : Tryd.pinned.checked.prog.funcNamed "adit/adittop.TopWindows" = some f) (hfn : Tryd.pinned.checked.prog.funcs[f]? = some fn) :
    true = Tryd.pinned.checked.prog.looks [] ∧ ∀ (j : Nat) t, fn.params[j]? = some t → Tryd.pinned.checked.prog.wantsStandIn t = false := by
  obtain rfl : f = 3 := Option.some.inj ((show Tryd.prog.funcNamed "adit/adittop.TopWindows" = some 3 by kernel_rfl).symm.trans hf) |>.symm
  obtain rfl : fn = Tryd.f3 := (Option.some.inj (Tryd.func3.symm.trans hfn)).symm
  refine ⟨by kernel_rfl, fun j t ht => ?_⟩
  rw [Tryd.params3] at ht
  have hm : t ∈ [22] := by simpa using Array.mem_of_getElem? ht
  have hall : ([22].all fun u => !Tryd.prog.wantsStandIn u) = true := by kernel_rfl
  exact (show Tryd.prog.wantsStandIn t = false by simpa using List.all_eq_true.1 hall t hm)

/-- TopWindows: the card. -/
theorem topWindows_card : Rows.TopWindowsCardSaid :=
  Claim7.holds_tied_plain_at .later [] _ _ _ _ windows_said (fun _ h => by cases h) (by kernel_rfl) (fun _ h => by cases h) topWindows_row_tie rfl ⟨rfl, rfl⟩ (by kernel_rfl) rfl windows_plain (by kernel_rfl)

end Go.Proofs.YtfljebipoajfpaaDoor
