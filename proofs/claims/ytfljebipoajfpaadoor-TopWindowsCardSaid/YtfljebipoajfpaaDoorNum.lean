/- Texts of numbers: isNumber, ReadNumber. -/
import Derived.Test.YtfljebipoajfpaaDoorBase
import Derived.Test.YtfljebipoajfpaaDoorShelf
import Derived.Lib.SmallJoins
import Derived.Lib.IfaceNeq
namespace Go.Proofs.YtfljebipoajfpaaDoor
open Go.RowKit

def dig (c : UInt8) : Bool := decide (48 ≤ c.toNat) && decide (c.toNat ≤ 57)
/-- Is a text a number, written plainly? -/
def isNum (s : ByteArray) : Bool := s.toList.all dig && ((s.toList == [48]) || (!s.toList.isEmpty && (s.toList.head? != some 48)))

theorem size_toList (s : ByteArray) : s.toList.length = s.size := by rw [Lib.toList_data]; rfl
theorem get_toList (s : ByteArray) (k : Nat) (h : k < s.size) : s.toList[k]'(by rw [size_toList]; exact h) = s[k] := by
  simp only [Lib.toList_data]; rfl
theorem isNum_no {s : ByteArray} {k : Nat} (h : k < s.size) (hd : dig s[k] = false) : isNum s = false := by
  have : s.toList.all dig = false := by
    rw [List.all_eq_false]
    refine ⟨s[k], ?_, by simp [hd]⟩
    rw [← get_toList s k h]; exact List.getElem_mem _
  simp [isNum, this]
theorem isNum_all {s : ByteArray} (h : ∀ j (h : j < s.size), dig s[j] = true) : s.toList.all dig = true := by
  rw [List.all_eq_true]
  intro c hc
  obtain ⟨j, hj, rfl⟩ := List.getElem_of_mem hc
  rw [get_toList s j (by rw [size_toList] at hj; exact hj)]
  exact h j _
theorem head_toList {s : ByteArray} (h : 0 < s.size) : s.toList.head? = some s[0] := by
  rw [← get_toList s 0 h, List.head?_eq_getElem?, List.getElem?_eq_getElem]

theorem ne48 (c : UInt8) : (((c.toNat : Nat) : Int) != 48) = (some c != some 48) := by
  rw [Bool.eq_iff_iff]
  simp only [bne_iff_ne, ne_eq, Option.some.injEq]
  constructor
  · rintro h rfl; exact h rfl
  · intro h e; exact h (UInt8.toNat_inj.1 (by have : c.toNat = 48 := by omega
                                              rw [this]; rfl))

theorem isNumber_any (s : ByteArray) (w : World) (hs : s.size ≤ 9223372036854775807) :
    Calls Tryd.prog 53 #[.string s] w fun e w' => e = .returned (.bool (isNum s)) ∧ w = w' := by
  go_enter Tryd.func53, Tryd.ntmps53
  repeat' (first | go_values | go_skip | go_guarded | go_step | go_upon)
  go_loop [6] (fun i => ∃ k : Nat, k ≤ s.size ∧ i = .int .i64 k ∧ Hid (∀ j (h : j < s.size), j < k → dig s[j] = true)) (fun i => s.size - (intOf i).toNat)
  case atStart => exact ⟨0, by omega, rfl, fun j _ h => absurd h (by omega)⟩
  case round =>
    obtain ⟨k, hk, rfl, HD⟩ := hrel
    by_cases hlt : k < s.size
    · by_cases h1 : s[k].toNat < 48
      · have d1 : decide (s[k].toNat < 48) = true := decide_eq_true h1
        repeat' (first | go_values | go_skip | go_guarded | go_step | go_upon)
        go_ret
        exact ⟨ret_bool (isNum_no hlt (by simp [dig]; omega)).symm, rfl⟩
      · by_cases h2 : 57 < s[k].toNat
        · have d1 : decide (s[k].toNat < 48) = false := decide_eq_false h1
          have d2 : decide (57 < s[k].toNat) = true := decide_eq_true h2
          repeat' (first | go_values | go_skip | go_guarded | go_step | go_upon)
          go_ret
          exact ⟨ret_bool (isNum_no hlt (by simp [dig]; omega)).symm, rfl⟩
        · have d1 : decide (s[k].toNat < 48) = false := decide_eq_false h1
          have d2 : decide (57 < s[k].toNat) = false := decide_eq_false h2
          repeat' (first | go_values | go_skip | go_guarded | go_step | go_upon)
          exact ⟨⟨k + 1, by omega, by go_num, fun j h hj => by by_cases e : j = k; (subst e; simp [dig]; omega); exact HD.out j h (by omega)⟩, by simp [intOf]; omega⟩
    · have d0 : decide (k < s.size) = false := decide_eq_false hlt
      have HA := Lib.hid (isNum_all (s := s) fun j h => HD.out j h (by omega))
      cases e1 : (s.toList == [48])
      · by_cases h0 : 0 < s.size
        · have hL : s.toList.isEmpty = false := by rw [List.isEmpty_eq_false_iff]; intro h; have := size_toList s; rw [h] at this; simp at this; omega
          have HH := Lib.hid (head_toList h0)
          repeat' (first | go_values | go_skip | go_guarded | go_step | go_upon)
          go_ret
          refine ⟨ret_bool ?_, rfl⟩
          rw [isNum, HA.out, e1, hL, HH.out, ← ne48 s[0]]; simp
        · have hL : s.toList.isEmpty = true := by rw [List.isEmpty_iff]; apply List.eq_nil_of_length_eq_zero; rw [size_toList]; omega
          repeat' (first | go_values | go_skip | go_guarded | go_step | go_upon)
          go_ret
          exact ⟨ret_bool (by simp [isNum, hL, e1]), rfl⟩
      · repeat' (first | go_values | go_skip | go_guarded | go_step | go_upon)
        go_ret
        exact ⟨ret_bool (by simp [isNum, HA.out, e1]), rfl⟩

/-- What the walks take of Go's library's variables: three cells. -/
structure Glob (w : World) : Prop where
  maxLen : ∃ m, w.cell? ⟨0, 0, none⟩ = some (.int .i64 m)
  syn : ∃ ev, w.cell? ⟨1, 0, none⟩ = some ev ∧ (ev = .nilIface ∨ ∃ te pe, ev = .iface te pe)
  rng : ∃ ev, w.cell? ⟨2, 0, none⟩ = some ev ∧ (ev = .nilIface ∨ ∃ te pe, ev = .iface te pe)
theorem Glob.below {w w1 : World} (h : Glob w) (hb : Below w.heap.size w w1) : Glob w1 := by
  obtain ⟨⟨m, hm⟩, ⟨ev, he, hh⟩, ⟨ev', he', hh'⟩⟩ := h
  exact ⟨⟨m, (hb.cell (block_lt_of_cell hm)).trans hm⟩, ⟨ev, (hb.cell (block_lt_of_cell he)).trans he, hh⟩, ⟨ev', (hb.cell (block_lt_of_cell he')).trans he', hh'⟩⟩

/-- A number's text, read: the number, and why not. -/
def readNum (s : ByteArray) (most : Nat) : Nat × Int :=
  if isNum s then match Lib.parseUintB 64 s.data.toList with
    | .ok u => if most < u then (0, 2) else (u, 0)
    | _ => (0, 2)
  else (0, 3)

theorem ret_num {a b a' b' : Int} (h : a = a') (h1 : b = b') : Ending.returned (.tuple #[.int .u64 a, .int .i64 b]) = .returned (.tuple #[.int .u64 a', .int .i64 b']) := by rw [h, h1]

set_option maxRecDepth 100000 in
theorem readNumber_any (s : ByteArray) (most : Nat) (w : World) (hs : s.size ≤ 281474976710656) (hG : Glob w) :
    Calls Tryd.prog 37 #[.string s, .int .u64 most] w fun e w' => e = .returned (.tuple #[.int .u64 ((readNum s most).1 : Nat), .int .i64 (readNum s most).2]) ∧ Below w.heap.size w w' := by
  have hN := isNumber_any s w (by omega)
  cases hn : isNum s
  · rw [hn] at hN
    have HN := Lib.hid hn
    have C := Lib.hid hN
    clear hn hN
    go_enter Tryd.func37, Tryd.ntmps37
    repeat' (first | go_values | go_skip | go_guarded | go_step | go_upon)
    refine C.out.mono ?_
    rintro e w1 ⟨rfl, rfl⟩
    dsimp only
    repeat' (first | go_values | go_skip | go_guarded | go_step | go_upon)
    go_ret2
    exact ⟨ret_num (by simp [readNum, HN.out]) (by simp [readNum, HN.out]), by go_grown⟩
  · rw [hn] at hN
    have HN := Lib.hid hn
    have C := Lib.hid hN
    clear hn hN
    rcases hp : Lib.parseUintB 64 s.data.toList with u | _ | _
    · have D := Lib.hid (Tryd.strconv_ParseUint_10_at64_ok s (by omega) u hp w)
      have HP := Lib.hid hp
      clear hp
      by_cases hm : most < u
      all_goals
        first
          | have d1 : decide (most < u) = true := decide_eq_true hm
          | have d1 : decide (most < u) = false := decide_eq_false hm
        go_enter Tryd.func37, Tryd.ntmps37
        repeat' (first | go_values | go_skip | go_guarded | go_step | go_upon)
        refine C.out.mono ?_
        rintro e w1 ⟨rfl, rfl⟩
        dsimp only
        repeat' (first | go_values | go_skip | go_guarded | go_step | go_upon)
        refine D.out.mono ?_
        rintro e w1 ⟨rfl, hw⟩
        have hb : Below w.heap.size w w1 := by
          rcases hw with rfl | rfl
          · exact Below.refl _ _
          · exact Joins.below_bytesWorld _ _ _ _ (Nat.le_refl _)
        clear hw
        dsimp only
        repeat' (first | go_values | go_skip | go_guarded | go_step | go_upon)
        go_ret2
        exact ⟨ret_num (by simp [readNum, HN.out, HP.out, hm]) (by simp [readNum, HN.out, HP.out, hm]), hb⟩
    all_goals
      obtain ⟨_, ⟨ev, he, hev⟩, ⟨ev', he', hev'⟩⟩ := hG
      first
        | have D := Lib.hid (Tryd.strconv_ParseUint_10_at64_syntax s hs hp ev w he hev)
        | have D := Lib.hid (Tryd.strconv_ParseUint_10_at64_range s hs hp ev' w he' hev')
      have HP := Lib.hid hp
      clear hp he hev he' hev'
      go_enter Tryd.func37, Tryd.ntmps37
      repeat' (first | go_values | go_skip | go_guarded | go_step | go_upon)
      refine C.out.mono ?_
      rintro e w1 ⟨rfl, rfl⟩
      dsimp only
      repeat' (first | go_values | go_skip | go_guarded | go_step | go_upon)
      refine D.out.mono ?_
      rintro e w1 ⟨N, rfl, hN, hc, hb⟩
      clear hc
      dsimp only
      repeat' (first | go_values | go_skip | go_guarded | go_step | go_upon)
      go_ret2
      exact ⟨ret_num (by simp [readNum, HN.out, HP.out]) (by simp [readNum, HN.out, HP.out]), hb⟩
end Go.Proofs.YtfljebipoajfpaaDoor
