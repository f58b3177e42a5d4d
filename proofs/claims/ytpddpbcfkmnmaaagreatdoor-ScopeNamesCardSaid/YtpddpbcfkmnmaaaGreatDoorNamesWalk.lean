/- The call recastlaw12.ScopeNames answers true at every name, in whatever memory, and leaves what was there as it was. Conditions: none. -/
import Derived.Test.YtpddpbcfkmnmaaaGreatDoorSeat
import Derived.WalkKit
import Derived.WalkSpells
namespace Go.Proofs.YtpddpbcfkmnmaaaGreatDoor
open Go.Rc Go.RowKit

/-- What the universe knows of a name. -/
def univ (l : List UInt8) : Int :=
  if l == [105, 110, 116] then 4 else if l == [115, 116, 114, 105, 110, 103] then 4 else if l == [98, 111, 111, 108] then 4 else if l == [97, 110, 121] then 4
  else if l == [99, 111, 109, 112, 97, 114, 97, 98, 108, 101] then 9
  else if l == [116, 114, 117, 101] then 3 else if l == [102, 97, 108, 115, 101] then 3
  else if l == [110, 105, 108] then 2
  else if l == [97, 112, 112, 101, 110, 100] then 5 else if l == [99, 108, 111, 115, 101] then 5 else if l == [108, 101, 110] then 5 else if l == [109, 97, 107, 101] then 5
  else if l == [110, 101, 119] then 5 else if l == [112, 97, 110, 105, 99] then 5 else if l == [112, 114, 105, 110, 116] then 5 else if l == [114, 101, 97, 100] then 5
  else if l == [114, 101, 99, 111, 118, 101, 114] then 5 else 0

set_option maxHeartbeats 4000000 in
theorem u14 (s : ByteArray) (w : World) :
    Calls Tryz.prog 14 #[.string s] w fun e w' => e = .returned (.int .i64 (univ s.toList)) ∧ w = w' := by
  go_enter Tryz.func14, Tryz.ntmps14
  go_wp2
  all_goals
    go_ret
    refine ⟨?_, rfl⟩
    simp_all [univ]

set_option maxHeartbeats 4000000 in
theorem u15 (s : ByteArray) (w : World) :
    Calls Tryz.prog 15 #[.string s] w fun e w' => e = .returned (.int .i64 (univ s.toList)) ∧ w = w' := by
  go_enter Tryz.func15, Tryz.ntmps15
  go_wp2
  all_goals
    go_ret
    refine ⟨?_, rfl⟩
    simp_all [univ]

/-- A name that other packages may use. -/
def exptd (l : List UInt8) : Bool := match l with
  | [] => false
  | b :: _ => decide (65 ≤ b.toNat) && decide (b.toNat ≤ 90)

theorem toList_cons (s : ByteArray) (h : 0 < s.size) : s.toList = s[0] :: s.toList.tail := by
  rw [ByteArray.toList_eq]
  obtain ⟨⟨l⟩⟩ := s
  cases l with
  | nil => simp [ByteArray.size] at h
  | cons a r => rfl

theorem toList_nil (s : ByteArray) (h : ¬ 0 < s.size) : s.toList = [] := by
  rw [ByteArray.toList_eq]
  obtain ⟨⟨l⟩⟩ := s
  cases l with
  | nil => rfl
  | cons a r => simp [ByteArray.size] at h

theorem exptd_eq (s : ByteArray) (h : 0 < s.size) : exptd s.toList = (decide (65 ≤ s[0].toNat) && decide (s[0].toNat ≤ 90)) := by
  rw [toList_cons s h]
  rfl

set_option maxHeartbeats 1000000 in
theorem e16 (s : ByteArray) (w : World) : Calls Tryz.prog 16 #[.string s] w fun e w' => e = .returned (.bool (exptd s.toList)) ∧ w = w' := by
  by_cases h0 : 0 < s.size
  · have hex := exptd_eq s h0
    have hne : s.toList ≠ [] := by rw [toList_cons s h0]; simp
    rw [hex]
    clear hex
    go_enter Tryz.func16, Tryz.ntmps16
    go_wp2
    all_goals go_ret
    · refine ⟨?_, rfl⟩
      have h : 65 ≤ (s[0].toNat : Int) := by assumption
      have h' : 65 ≤ s[0].toNat := by omega
      have h2 : decide ((s[0].toNat : Int) ≤ 90) = decide (s[0].toNat ≤ 90) := decide_eq_decide.2 (by omega)
      simp [h', hne, h2]
    · refine ⟨?_, rfl⟩
      have h : (s[0].toNat : Int) < 65 := by assumption
      have h' : ¬ 65 ≤ s[0].toNat := by omega
      simp [h']
  · have he := toList_nil s h0
    have hee : (!s.toList.isEmpty) = false := by simp [he]
    rw [show exptd s.toList = false by rw [he]; rfl]
    go_enter Tryz.func16, Tryz.ntmps16
    go_wp2
    all_goals go_ret
    exact ⟨rfl, rfl⟩

set_option maxHeartbeats 1000000 in
theorem e17 (s : ByteArray) (w : World) : Calls Tryz.prog 17 #[.string s] w fun e w' => e = .returned (.bool (exptd s.toList)) ∧ w = w' := by
  by_cases h0 : 0 < s.size
  · have hex := exptd_eq s h0
    have hne : s.toList ≠ [] := by rw [toList_cons s h0]; simp
    rw [hex]
    clear hex
    go_enter Tryz.func17, Tryz.ntmps17
    go_wp2
    all_goals go_ret
    · refine ⟨?_, rfl⟩
      have h : 65 ≤ (s[0].toNat : Int) := by assumption
      have h' : 65 ≤ s[0].toNat := by omega
      have h2 : decide ((s[0].toNat : Int) ≤ 90) = decide (s[0].toNat ≤ 90) := decide_eq_decide.2 (by omega)
      simp [h', hne, h2]
    · refine ⟨?_, rfl⟩
      have h : (s[0].toNat : Int) < 65 := by assumption
      have h' : ¬ 65 ≤ s[0].toNat := by omega
      simp [h']
  · have he := toList_nil s h0
    have hee : (!s.toList.isEmpty) = false := by simp [he]
    rw [show exptd s.toList = false by rw [he]; rfl]
    go_enter Tryz.func17, Tryz.ntmps17
    go_wp2
    all_goals go_ret
    exact ⟨rfl, rfl⟩

set_option maxHeartbeats 1000000 in
theorem names_calls (s : ByteArray) (w : World) : Calls Tryz.prog 5 #[.string s] w fun e w' => e = .returned (.bool true) ∧ Below w.heap.size w w' := by
  obtain ⟨u, hu⟩ : ∃ u, u = univ s.toList := ⟨_, rfl⟩
  obtain ⟨x, hx⟩ : ∃ x, x = exptd s.toList := ⟨_, rfl⟩
  have c14 := fun w => u14 s w
  have c15 := fun w => u15 s w
  have c16 := fun w => e16 s w
  have c17 := fun w => e17 s w
  rw [← hu] at c14 c15
  rw [← hx] at c16 c17
  have hxx : (x == x) = true := by simp
  clear hu hx
  go_enter Tryz.func5, Tryz.ntmps5
  go_wp2_with (first | (go_at_call 14; refine (c14 _).mono ?_; rintro e w' ⟨rfl, rfl⟩) | (go_at_call 15; refine (c15 _).mono ?_; rintro e w' ⟨rfl, rfl⟩) | (go_at_call 16; refine (c16 _).mono ?_; rintro e w' ⟨rfl, rfl⟩) | (go_at_call 17; refine (c17 _).mono ?_; rintro e w' ⟨rfl, rfl⟩) | (go_at_call 8; refine (awake_calls _).mono ?_; rintro e w' ⟨rfl, hb⟩))
  go_ret
  exact ⟨rfl, hb⟩

end Go.Proofs.YtpddpbcfkmnmaaaGreatDoor
