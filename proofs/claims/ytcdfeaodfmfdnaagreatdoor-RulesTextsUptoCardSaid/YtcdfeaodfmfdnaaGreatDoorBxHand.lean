/- The reader of a position's text: a hand. -/
import Derived.Test.YtcdfeaodfmfdnaaGreatDoorBxRd
import Derived.Deep.CutRange
namespace Go.Proofs.YtcdfeaodfmfdnaaGreatDoor
open Go.RowKit

/-- may a hand that began at f go on at k? -/
def goH (s : ByteArray) (f k : Nat) : Bool := match s.data.toList[k]? with
  | none => false
  | some c => handGo ((s.data.toList.drop f).take (k - f)) c
theorem goH_end {s : ByteArray} {f k : Nat} (h : s.size ≤ k) : goH s f k = false := by
  unfold goH
  have h2 : s.data.toList.length ≤ k := by simpa using h
  rw [List.getElem?_eq_none h2]
theorem goH_in {s : ByteArray} {f k : Nat} (hk : k < s.size) (hf : f ≤ k) : goH s f k = (upB s[k].toNat && decide (k - f < 8) && (decide (k = f) || decide ((s[k - 1]'(by omega)).toNat ≤ s[k].toNat))) := by
  unfold goH
  rw [byteAt hk]
  simp only [handGo]
  have hl : ((s.data.toList.drop f).take (k - f)).length = k - f := by simp; omega
  rw [hl]
  congr 1
  by_cases e : k = f
  · subst e; simp
  · have hlast : ((s.data.toList.drop f).take (k - f)).getLast? = some (s[k - 1]'(by omega)) := by
      rw [List.getLast?_eq_getElem?, hl, List.getElem?_take, if_pos (by omega), List.getElem?_drop, show f + (k - f - 1) = k - 1 by omega, byteAt (by omega)]
    rw [hlast]
    simp [e]
def atOf (w : World) (b : Nat) : Nat := match w.cell? ⟨b, 1, none⟩ with
  | some (.int _ n) => n.toNat
  | _ => 0
theorem atOf_eq {w : World} {b : Nat} {s : ByteArray} {k : Nat} (h : RdAt w b s k) : atOf w b = k := by
  unfold atOf
  rw [h.cells.2.1]
  simp
def HandOut (s : ByteArray) (k0 b : Nat) (W : World) (e : Ending) (w' : World) : Prop :=
  Only (fun x => x = b) W w' ∧ ((s.data.toList[k0]?.map (·.toNat) = some 45 ∧ e = .returned (.tuple #[.string ⟨#[]⟩, .bool true]) ∧ RdAt w' b s (k0 + 1)) ∨
    (s.data.toList[k0]?.map (·.toNat) ≠ some 45 ∧ ∃ k, k0 ≤ k ∧ k ≤ s.size ∧ e = .returned (.tuple #[.string (s.extract k0 k), .bool (decide (k0 < k))]) ∧ RdAt w' b s k ∧ (∀ j, k0 ≤ j → j < k → goH s k0 j = true) ∧ goH s k0 k = false))
set_option maxHeartbeats 4000000 in
theorem rhand_read (b : Nat) (s : ByteArray) (k0 : Nat) (w : World) (h : RdAt w b s k0) (hs : s.size ≤ 9223372036854775806) (hk0 : k0 ≤ s.size) :
    Calls Tryz.prog 156 #[.pointer (some ⟨b, 0, none⟩)] w (HandOut s k0 b w) := by
  have His := hide (is_any b s k0 45 w h hs)
  have Hu := hide fun n W => upper_any n W
  have HQ := hide (show ∀ e w', HandOut s k0 b w e w' → HandOut s k0 b w e w' from fun _ _ h => h)
  clear h
  go_enter Tryz.func156, Tryz.ntmps156
  go_wp2_with (go_at_call 155; refine His.out.mono ?_; rintro e w1 ⟨ho, ⟨hc, rfl, hr⟩ | ⟨hc, rfl, hr⟩⟩ <;> obtain ⟨x0, x1, -⟩ := hr.cells)
  · go_ret2
    exact ⟨ho, .inl ⟨hc, rfl, hr⟩⟩
  · have Ho := hide ho
    have Hr := hide hr
    have Hc := hide hc
    clear ho hr hc His x0 x1
    have hk1 : (0 : Int) ≤ (k0 : Int) := by omega
    go_loopw [] (fun wr => ∃ k : Nat, k0 ≤ k ∧ k ≤ s.size ∧ RdAt wr b s k ∧ Only (fun x => x = b) w wr ∧ ∀ j, k0 ≤ j → j < k → goH s k0 j = true) (fun wr => s.size - atOf wr b)
    case atStart => exact ⟨k0, Nat.le_refl _, hk0, Hr.out, Ho.out, fun j h1 h2 => by omega⟩
    case round =>
      rename World => wr
      obtain ⟨k, h1, h2, hr, ho, hall⟩ := hrel
      have Hr := hide hr
      have Ho := hide ho
      have Hall := hide hall
      clear hr ho hall
      obtain ⟨gv, hgv⟩ : ∃ gv, goH s k0 k = gv := ⟨_, rfl⟩
      have Hgv := hide hgv
      go_upto_region 4 with (fail)
      go_cut [57] from 11 to 57 (fun x w' => x = .bool gv ∧ ∃ n, w' = wr.drewN n)
      case first =>
        obtain ⟨x0, x1, -⟩ := Hr.out.cells
        have Hnx := hide (fun (h : k < s.size) (n : Nat) => next_in b s k (wr.drewN n) (Hr.out.drewN n) h)
        have j1 : (0 : Int) ≤ (k : Int) := by omega
        by_cases hk : k < s.size
        · have t1 : decide ((k : Int) < (s.size : Int)) = true := by simp; omega
          have t1n : decide (k < s.size) = true := by simp; omega
          have hg := goH_in hk h1
          rw [hgv] at hg
          have Hn2 := hide (Hnx.out hk)
          clear hgv Hnx
          cases hu : upB s[k].toNat
          · simp only [hu, Bool.false_and] at hg
            subst hg
            go_quiet ((first | (go_at_call 175; exact Calls.quiet_of (Hn2.out _)) | (go_at_call 44; exact Calls.quiet_of_same (Hu.out _ _))))
            go_wp2_with fail
            go_meet
            case rel => exact ⟨rfl, _, rfl⟩
          · simp only [hu, Bool.true_and] at hg
            have tw : IntKind.i64.wrap ((k : Int) - (k0 : Int)) = (k : Int) - (k0 : Int) := IntWalk.i64_in _ (by omega)
            by_cases h8 : k - k0 < 8
            · have t8 : decide ((k : Int) - (k0 : Int) < 8) = true := by simp; omega
              by_cases he : k = k0
              · subst he
                simp at hg
                subst hg
                have te : ((k : Int) == (k : Int)) = true := by simp
                clear h8
                go_quiet ((first | (go_at_call 175; exact Calls.quiet_of (Hn2.out _)) | (go_at_call 44; exact Calls.quiet_of_same (Hu.out _ _))))
                go_wp2_with fail
                go_meet
                case rel => exact ⟨rfl, _, rfl⟩
              · have te : ((k : Int) == (k0 : Int)) = false := by simp; omega
                rw [decide_eq_true h8, decide_eq_false he, Bool.true_and, Bool.false_or] at hg
                obtain ⟨q, rfl⟩ : ∃ q, k = q + 1 := ⟨k - 1, by omega⟩
                have c1 : ((q + 1 : Nat) : Int) = (q : Int) + 1 := by omega
                simp only [c1] at x1 j1 t1 tw t8 te
                have j2 : (q : Int) + 1 < (s.size : Int) := by omega
                have j0 : (0 : Int) ≤ (q : Int) := by omega
                have j3 : (q : Int) < (s.size : Int) := by omega
                have j4 : IntKind.i64.wrap ((q : Int) + 1 - 1) = (q : Int) := by rw [show (q : Int) + 1 - 1 = q by omega]; exact IntWalk.i64_in _ (by omega)
                have tc : decide ((s[q].toNat : Int) ≤ (s[q + 1].toNat : Int)) = gv := by rw [hg, Bool.eq_iff_iff]; simp
                clear c1 he h8 hg
                go_quiet ((first | (go_at_call 175; exact Calls.quiet_of (Hn2.out _)) | (go_at_call 44; exact Calls.quiet_of_same (Hu.out _ _))))
                go_wp2_with fail
                go_meet
                case rel => exact ⟨by rw [← tc]; simp, _, rfl⟩
            · have t8 : decide ((k : Int) - (k0 : Int) < 8) = false := by simp; omega
              rw [decide_eq_false h8, Bool.false_and] at hg
              subst hg
              clear h8
              go_quiet ((first | (go_at_call 175; exact Calls.quiet_of (Hn2.out _)) | (go_at_call 44; exact Calls.quiet_of_same (Hu.out _ _))))
              go_wp2_with fail
              go_meet
              case rel => exact ⟨rfl, _, rfl⟩
        · have t1 : decide ((k : Int) < (s.size : Int)) = false := by simp; omega
          have t1n : decide (k < s.size) = false := by simp; omega
          have hg := goH_end (s := s) (f := k0) (k := k) (by omega)
          rw [hgv] at hg
          subst hg
          clear hgv Hnx
          go_quiet (fail)
          go_wp2_with fail
          go_meet
          case rel => exact ⟨rfl, _, rfl⟩
      case rest =>
        obtain ⟨rfl, n, rfl⟩ := hcut
        obtain ⟨x0, x1, x2⟩ := Hr.out.cells
        have j1 : (0 : Int) ≤ (k : Int) := by omega
        cases gv
        · have j2 : (k : Int) ≤ (s.size : Int) := by omega
          have j3 : (k0 : Int) ≤ (k : Int) := by omega
          have tc : decide ((k0 : Int) < (k : Int)) = decide (k0 < k) := by rw [Bool.eq_iff_iff]; simp
          obtain ⟨bd, hbd⟩ : ∃ bd, decide (k0 < k) = bd := ⟨_, rfl⟩
          have Hbd := hide hbd
          rw [hbd] at tc
          clear hbd hgv
          go_wp2_with fail
          go_quiet (fail)
          go_wp2_with fail
          go_ret2
          exact ⟨(Ho.out.drewN _).drewN _, .inr ⟨Hc.out, k, h1, h2, by rw [Hbd.out] <;> simp, (Hr.out.drewN _).drewN _, Hall.out, Hgv.out⟩⟩
        · have hk : k < s.size := by
            rcases Nat.lt_or_ge k s.size with h | h
            · exact h
            · rw [goH_end h] at hgv; cases hgv
          have tw3 : IntKind.i64.wrap ((k : Int) + 1) = (k : Int) + 1 := IntWalk.i64_in _ (by omega)
          clear hgv
          go_wp2_with fail
          have hn : RdAt ((wr.drewN n).setCell ⟨b, 1, none⟩ (.int .i64 ((k : Int) + 1))) b s (k + 1) := Blk.set_ (Hr.out.drewN n) 1 _
          go_roundw
          case rel => exact ⟨k + 1, by omega, by omega, hn, (Ho.out.drewN n).setCell (p := ⟨b, 1, none⟩) (.inl rfl) _, fun j h3 h4 => by
            by_cases e : j = k
            · subst e; exact Hgv.out
            · exact Hall.out j h3 (by omega)⟩
          case measure => rw [atOf_eq hn, atOf_eq Hr.out]; omega
end Go.Proofs.YtcdfeaodfmfdnaaGreatDoor
