/- The reader of a position's text: its small steps. -/
import Derived.Test.YtcdfeaodfmfdnaaGreatDoorBoardHand
import Derived.Test.YtcdfeaodfmfdnaaGreatDoorBxAns
import Derived.Test.YtcdfeaodfmfdnaaGreatDoorOwn
namespace Go.Proofs.YtcdfeaodfmfdnaaGreatDoor
open Go.RowKit

/-- a reader in block b: its text, where it is -/
def RdAt (w : World) (b : Nat) (s : ByteArray) (k : Nat) : Prop := Blk w b 174 #[.string s, .int .i64 (k : Int)]
theorem RdAt.cells {w : World} {b : Nat} {s : ByteArray} {k : Nat} (h : RdAt w b s k) : w.cell? ⟨b, 0, none⟩ = some (.string s) ∧ w.cell? ⟨b, 1, none⟩ = some (.int .i64 (k : Int)) ∧ w.frozen? ⟨b, 1, none⟩ = false := ⟨Blk.cellv h rfl, Blk.cellv h rfl, Blk.free h 1⟩
theorem RdAt.drewN {w : World} {b : Nat} {s : ByteArray} {k : Nat} (h : RdAt w b s k) (n : Nat) : RdAt (w.drewN n) b s k := h
set_option maxHeartbeats 1000000 in
theorem next_in (b : Nat) (s : ByteArray) (k : Nat) (w : World) (h : RdAt w b s k) (hk : k < s.size) :
    Calls Tryz.prog 175 #[.pointer (some ⟨b, 0, none⟩)] w fun e w' => e = .returned (.int .u8 (s[k].toNat : Int)) ∧ ∃ n, w' = w.drewN n := by
  obtain ⟨x0, x1, -⟩ := h.cells
  clear h
  have t1 : decide ((k : Int) < (s.size : Int)) = true := by simp; omega
  have t1n : decide (k < s.size) = true := by simp; omega
  have hk1 : (0 : Int) ≤ (k : Int) := by omega
  have hk2 : (k : Int) < (s.size : Int) := by omega
  go_enter Tryz.func175, Tryz.ntmps175
  go_upto_region 1 with (fail)
  go_quiet (fail)
  go_upto_region 2 with (fail)
  go_quiet (fail)
  go_wp2_with fail
  go_ret
  exact ⟨rfl, _, World.drewN_drewN _ _ _⟩
set_option maxHeartbeats 1000000 in
theorem is_yes (b : Nat) (s : ByteArray) (k c : Nat) (w : World) (h : RdAt w b s k) (hs : s.size ≤ 9223372036854775806) (hk : k < s.size) (hc : s[k].toNat = c) :
    Calls Tryz.prog 155 #[.pointer (some ⟨b, 0, none⟩), .int .u8 (c : Int)] w fun e w' => e = .returned (.bool true) ∧ RdAt w' b s (k + 1) ∧ Only (fun x => x = b) w w' := by
  obtain ⟨x0, x1, x2⟩ := h.cells
  have H := hide h
  have t1 : decide ((k : Int) < (s.size : Int)) = true := by simp; omega
  have t1n : decide (k < s.size) = true := by simp; omega
  have hk1 : (0 : Int) ≤ (k : Int) := by omega
  have hk2 : (k : Int) < (s.size : Int) := by omega
  have t2 : ((s[k].toNat : Int) == (c : Int)) = true := by rw [hc]; simp
  have t3 : (s[k].toNat == c) = true := by rw [hc]; simp
  have tw : IntKind.i64.wrap ((k : Int) + 1) = (k : Int) + 1 := by rw [IntWalk.i64_in _ (by omega)]
  clear h hc
  go_enter Tryz.func155, Tryz.ntmps155
  go_upto_region 1 with (fail)
  go_quiet (fail)
  go_upto_region 2 with (fail)
  go_wp2_with fail
  go_ret
  exact ⟨rfl, Blk.set_ (H.out.drewN _) 1 _, ((Only.refl (fun x => x = b) w).drewN _).setCell (p := ⟨b, 1, none⟩) (.inl rfl) _⟩
set_option maxHeartbeats 1000000 in
theorem is_no (b : Nat) (s : ByteArray) (k c : Nat) (w : World) (h : RdAt w b s k) (hc : ∀ hk : k < s.size, s[k].toNat ≠ c) :
    Calls Tryz.prog 155 #[.pointer (some ⟨b, 0, none⟩), .int .u8 (c : Int)] w fun e w' => e = .returned (.bool false) ∧ ∃ n, w' = w.drewN n := by
  obtain ⟨x0, x1, x2⟩ := h.cells
  by_cases hk : k < s.size
  · have t1 : decide ((k : Int) < (s.size : Int)) = true := by simp; omega
    have t1n : decide (k < s.size) = true := by simp; omega
    have hk1 : (0 : Int) ≤ (k : Int) := by omega
    have hk2 : (k : Int) < (s.size : Int) := by omega
    have h1 := hc hk
    have t2 : ((s[k].toNat : Int) == (c : Int)) = false := by simp; omega
    have t3 : (s[k].toNat == c) = false := by simpa using h1
    clear h hc h1
    go_enter Tryz.func155, Tryz.ntmps155
    go_upto_region 1 with (fail)
    go_quiet (fail)
    go_wp2_with fail
    go_ret
    exact ⟨rfl, _, rfl⟩
  · have t1 : decide ((k : Int) < (s.size : Int)) = false := by simp; omega
    have t1n : decide (k < s.size) = false := by simp; omega
    clear h hc
    go_enter Tryz.func155, Tryz.ntmps155
    go_upto_region 1 with (fail)
    go_quiet (fail)
    go_wp2_with fail
    go_ret
    exact ⟨rfl, _, rfl⟩
/-- 'is', in one: the byte or no -/
def IsOut (s : ByteArray) (k c b : Nat) (W : World) (e : Ending) (w' : World) : Prop :=
  Only (fun x => x = b) W w' ∧ ((s.data.toList[k]?.map (·.toNat) = some c ∧ e = .returned (.bool true) ∧ RdAt w' b s (k + 1)) ∨ (s.data.toList[k]?.map (·.toNat) ≠ some c ∧ e = .returned (.bool false) ∧ RdAt w' b s k))
theorem byteAt {s : ByteArray} {k : Nat} (hk : k < s.size) : s.data.toList[k]? = some s[k] := by
  have h2 : k < s.data.toList.length := by simpa using hk
  rw [List.getElem?_eq_getElem h2]
  rfl
theorem is_any (b : Nat) (s : ByteArray) (k c : Nat) (w : World) (h : RdAt w b s k) (hs : s.size ≤ 9223372036854775806) :
    Calls Tryz.prog 155 #[.pointer (some ⟨b, 0, none⟩), .int .u8 (c : Int)] w (IsOut s k c b w) := by
  by_cases hc : ∃ hk : k < s.size, s[k].toNat = c
  · obtain ⟨hk, e⟩ := hc
    exact (is_yes b s k c w h hs hk e).mono fun e' w' ⟨h1, h2, h3⟩ => ⟨h3, .inl ⟨by rw [byteAt hk, Option.map_some, e], h1, h2⟩⟩
  · refine (is_no b s k c w h (fun hk e => hc ⟨hk, e⟩)).mono fun e' w' ⟨h1, n, h2⟩ => ⟨h2 ▸ (Only.refl _ _).drewN n, .inr ⟨fun hm => ?_, h1, h2 ▸ h.drewN n⟩⟩
    obtain ⟨x, hx, e⟩ := Option.map_eq_some_iff.1 hm
    obtain ⟨hl, e2⟩ := List.getElem?_eq_some_iff.1 hx
    have hk : k < s.size := by simpa using hl
    rw [byteAt hk] at hx
    injection hx with hx
    exact hc ⟨hk, by rw [hx, e]⟩
end Go.Proofs.YtcdfeaodfmfdnaaGreatDoor
