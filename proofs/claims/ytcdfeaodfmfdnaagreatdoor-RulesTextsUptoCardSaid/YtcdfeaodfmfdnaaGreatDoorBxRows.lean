/- The reader of a position's text: its rows, walked. -/
import Derived.Test.YtcdfeaodfmfdnaaGreatDoorBxRowsP
import Derived.Test.YtcdfeaodfmfdnaaGreatDoorAppStep
import Derived.Deep.RegionHeld
import Derived.Deep.CutRange
namespace Go.Proofs.YtcdfeaodfmfdnaaGreatDoor
open Go.RowKit

def strV (l : List UInt8) : Value := .string (bytes l)
theorem ext_seg (s : ByteArray) (f k : Nat) : s.extract f k = bytes (segL s.data.toList f k) := bytes_eq (by rw [Go.Lib.extract_data]; simp [bytes, segL])
theorem size_bytes (l : List UInt8) : (bytes l).size = l.length := by simp [bytes, ByteArray.size]
theorem info_string : (Tryz.prog.info? 9).map (fun i => (i.zero, i.size, i.bytes)) = some (some (.string ⟨#[]⟩), 1, 16) := by kernel_rfl
theorem infoP {i? : Option TypeInfo} {z : Option Value} {n b : Nat} (h : i?.map (fun i => (i.zero, i.size, i.bytes)) = some (z, n, b)) : ∃ i, i? = some i ∧ i.zero = z ∧ i.size = n ∧ i.bytes = b := by
  obtain ⟨i, hi, e⟩ := Option.map_eq_some_iff.1 h
  injection e with e1 e
  injection e with e2 e3
  exact ⟨i, hi, e1, e2, e3⟩
/-- what rows answers -/
def RowsOut (s : ByteArray) (b : Nat) (W : World) (e : Ending) (w' : World) : Prop :=
  Only (fun x => x = b) W w' ∧ ((∃ k v, FailB s.data.toList k ∧ e = .returned (.tuple #[v, .bool false]) ∧ RdAt w' b s k) ∨
    (∃ k rs v, k ≤ s.size ∧ runB (s.data.toList.take k) = some (.turn rs) ∧ e = .returned (.tuple #[v, .bool true]) ∧ RdAt w' b s k ∧ w'.ownsRow W.heap.size 9 1 v rs.length (rs.map strV)))
set_option maxHeartbeats 8000000 in
set_option maxRecDepth 100000 in
theorem rows_read (b : Nat) (s : ByteArray) (w : World) (h : RdAt w b s 0) (hs : s.size ≤ 9223372036854775806) :
    Calls Tryz.prog 153 #[.pointer (some ⟨b, 0, none⟩)] w (RowsOut s b w) := by
  have Hr0 := hide h
  have Hcl := hide fun n W => cell_any n W
  have hbw : b < w.heap.size := h.lt
  have hlen : s.data.toList.length = s.size := by simp
  have Hlen := hide hlen
  have Hnil := hide (World.ownsRow_nil w w.heap.size 9 1)
  obtain ⟨i0, hi, hz0, hz1, hz2⟩ := infoP info_string
  have Hi := hide hi
  have Hz0 := hide hz0
  have Hz1 := hide hz1
  have Hz2 := hide hz2
  clear h hlen hi hz0 hz1 hz2
  go_enter Tryz.func153, Tryz.ntmps153
  go_wp2_with fail
  go_loopw [4] (fun rv wr => ∃ (k : Nat) (rs : List (List UInt8)), k ≤ s.size ∧ runB (s.data.toList.take k) = some (.rows rs []) ∧ RdAt wr b s k ∧ wr.ownsRow w.heap.size 9 1 rv rs.length (rs.map strV) ∧ Only (fun x => x = b) w wr) (fun _ wr => s.size - atOf wr b)
  case atStart => exact ⟨0, [], Nat.zero_le _, rfl, Hr0.out, Hnil.out, Only.refl _ _⟩
  case round =>
    rename World => wr
    obtain ⟨f, rs, hf, hrun, hr, hown, ho⟩ := hrel
    have Hr := hide hr
    have Hrun := hide hrun
    have Hown := hide hown
    have Ho := hide ho
    have hwf := (run_wf _ _ hrun).1
    have hrs8 : rs.length < 8 := hwf.2.1
    clear hrun hr ho hwf
    obtain ⟨A, c, rfl, hle, hxl, hcell⟩ := Cells.of_own hown
    obtain ⟨nr, hnr⟩ : ∃ nr, rs.length = nr := ⟨_, rfl⟩
    have Hnr := hide hnr
    rw [hnr] at Hown hle hrs8 ⊢
    clear hnr
    have Hcell := hide hcell
    clear hown hcell hxl
    obtain ⟨x0, x1, -⟩ := Hr.out.cells
    go_upto_region 3 with (fail)
    clear x0 x1
    go_loopw [] (fun wq => ∃ k : Nat, f ≤ k ∧ k ≤ s.size ∧ RdAt wq b s k ∧ runB (s.data.toList.take k) = some (.rows rs (segL s.data.toList f k)) ∧ Only (fun x => x = b) wr wq) (fun wq => s.size - atOf wq b)
    case atStart => exact ⟨f, Nat.le_refl _, hf, Hr.out, by rw [segL_nil]; exact Hrun.out, Only.refl _ _⟩
    case round =>
      rename World => wq
      obtain ⟨k, hfk, hk, hr, hrun, ho⟩ := hrel
      have Hrq := hide hr
      have Hrunq := hide hrun
      have Hoq := hide ho
      have Hownq := hide (ownsRow_only Hown.out ho (fun g hg e => by have := (Hown.out.lt g hg).1; omega))
      clear hr hrun ho
      obtain ⟨gv, hgv⟩ : ∃ gv, goR s.data.toList rs f k = gv := ⟨_, rfl⟩
      have Hgv := hide hgv
      go_upto_region 3 with (fail)
      go_cut [51] from 10 to 51 (fun x w' => x = .bool gv ∧ ∃ n, w' = wq.drewN n)
      case first =>
        obtain ⟨x0, x1, -⟩ := Hrq.out.cells
        have j1 : (0 : Int) ≤ (k : Int) := by omega
        by_cases hks : k < s.size
        · have t1 : decide ((k : Int) < (s.size : Int)) = true := by simp; omega
          have t1n : decide (k < s.size) = true := by simp; omega
          have Hn2 := hide (fun (n : Nat) => next_in b s k (wq.drewN n) (Hrq.out.drewN n) hks)
          have hg := goR_in (rs := rs) hks hfk
          rw [hgv] at hg
          clear hgv
          cases hu : cellB s[k].toNat
          · simp only [hu, Bool.false_and] at hg
            subst hg
            go_quiet ((first | (go_at_call 175; exact Calls.quiet_of (Hn2.out _)) | (go_at_call 87; exact Calls.quiet_of_same (Hcl.out _ _))))
            go_wp2_with fail
            go_meet
            case rel => exact ⟨rfl, _, rfl⟩
          · simp only [hu, Bool.true_and] at hg
            have tw : IntKind.i64.wrap ((k : Int) - (f : Int)) = (k : Int) - (f : Int) := IntWalk.i64_in _ (by omega)
            by_cases h8 : k - f < 8
            · have t8 : decide ((k : Int) - (f : Int) < 8) = true := by simp; omega
              rw [decide_eq_true h8, Bool.true_and] at hg
              cases rs with
              | nil =>
                simp at hg
                subst hg
                have tl : ((nr : Int) == 0) = true := by have := Hnr.out; simp at this; rw [← this]; rfl
                clear h8
                go_quiet ((first | (go_at_call 175; exact Calls.quiet_of (Hn2.out _)) | (go_at_call 87; exact Calls.quiet_of_same (Hcl.out _ _))))
                go_wp2_with fail
                go_meet
                case rel => exact ⟨rfl, _, rfl⟩
              | cons a rs' =>
                simp only [List.isEmpty_cons, Bool.false_or] at hg
                have hnl : 0 < nr := by have := Hnr.out; simp at this; omega
                have tl : ((nr : Int) == 0) = false := by simp; omega
                obtain ⟨ga, oa, rfl, hga, hca⟩ := (Hcell.out).at_ (k := 0) (by simp)
                have hcq : wq.cell? ⟨ga, oa + 0, none⟩ = some (.string (bytes a)) := by
                  have h1 := Hoq.out.block ga (by have := World.block_lt_of_cell? wr _ hca; simpa using this) (fun e => by have := (Hown.out.lt ga rfl).1; omega)
                  have h2 : wr.cell? ⟨ga, oa + 0, none⟩ = some (strV a) := by simpa using hca
                  rw [show strV a = .string (bytes a) from rfl] at h2
                  rw [← h2]
                  simp only [World.cell?, h1]
                rw [Nat.add_zero] at hcq
                obtain ⟨ba, hba⟩ : ∃ ba, bytes a = ba := ⟨_, rfl⟩
                have hsz : ba.size = wid (a :: rs') := by rw [← hba, size_bytes]; rfl
                have tc : decide ((k : Int) - (f : Int) < (ba.size : Int)) = gv := by
                  rw [hg, hsz, Bool.eq_iff_iff]
                  simp only [decide_eq_true_eq]
                  omega
                rw [hba] at hcq
                have jl : (0 : Int) < (nr : Int) := by omega
                clear hca hba hsz hg hnl h8
                go_quiet ((first | (go_at_call 175; exact Calls.quiet_of (Hn2.out _)) | (go_at_call 87; exact Calls.quiet_of_same (Hcl.out _ _))))
                go_wp2_with fail
                go_meet
                case rel => exact ⟨by first | rfl | (rw [← tc]; simp), _, rfl⟩
            · have t8 : decide ((k : Int) - (f : Int) < 8) = false := by simp; omega
              rw [decide_eq_false h8, Bool.false_and] at hg
              subst hg
              clear h8
              go_quiet ((first | (go_at_call 175; exact Calls.quiet_of (Hn2.out _)) | (go_at_call 87; exact Calls.quiet_of_same (Hcl.out _ _))))
              go_wp2_with fail
              go_meet
              case rel => exact ⟨rfl, _, rfl⟩
        · have t1 : decide ((k : Int) < (s.size : Int)) = false := by simp; omega
          have t1n : decide (k < s.size) = false := by simp; omega
          have hg := goR_end (rs := rs) (f := f) (k := k) (l := s.data.toList) (by rw [Hlen.out]; omega)
          rw [hgv] at hg
          subst hg
          clear hgv
          go_quiet (fail)
          go_wp2_with fail
          go_meet
          case rel => exact ⟨rfl, _, rfl⟩
      case rest =>
        obtain ⟨rfl, n, rfl⟩ := hcut
        obtain ⟨w5, hw5⟩ : ∃ w5, wq.drewN n = w5 := ⟨_, rfl⟩
        have Hr5 := hide (show RdAt w5 b s k from hw5 ▸ Hrq.out.drewN n)
        have Ho5 := hide (show Only (fun x => x = b) wr w5 from hw5 ▸ Hoq.out.drewN n)
        have Hown5 := hide (ownsRow_only Hown.out Ho5.out (fun g hg e => by have := (Hown.out.lt g hg).1; omega))
        rw [hw5]
        clear hw5 Hownq
        cases gv
        · have hwk := (run_wf _ _ Hrunq.out).1
          have hcw : rs ≠ [] → k - f ≤ wid rs := fun hne => by
            have := hwk.2.2.2.2 hne
            rwa [segL_len hfk (by rw [Hlen.out]; exact hk)] at this
          clear hwk
          obtain ⟨re, hre⟩ : ∃ re, rowEnd rs (segL s.data.toList f k) = re := ⟨_, rfl⟩
          have Hre := hide hre
          have hrei : re = true ↔ (f < k ∧ (rs = [] ∨ k - f = wid rs)) := by
            rw [← hre, rowEnd_iff]
            have hl := segL_len (l := s.data.toList) hfk (by rw [Hlen.out]; exact hk)
            rw [hl]
            constructor
            · rintro ⟨h1, h2⟩
              refine ⟨?_, h2⟩
              rcases Nat.lt_or_ge f k with h | h
              · exact h
              · exact absurd (List.eq_nil_of_length_eq_zero (by omega)) h1
            · rintro ⟨h1, h2⟩
              exact ⟨fun e => by rw [e] at hl; simp at hl; omega, h2⟩
          go_upto_region 5 with (fail)
          go_cut [82] from 59 to 82 (fun x w' => x = .bool (!re) ∧ ∃ n, w' = w5.drewN n)
          case first =>
            obtain ⟨x0, x1, -⟩ := Hr5.out.cells
            have j1 : (0 : Int) ≤ (k : Int) := by omega
            clear hre hgv
            by_cases hfe : k = f
            · have te : ((k : Int) == (f : Int)) = true := by simp; omega
              have hr0 : re = false := by
                cases re
                · rfl
                · have := (hrei.1 rfl).1; omega
              subst hr0
              clear hrei hcw hfe
              go_quiet (fail)
              go_wp2_with fail
              go_meet
              case rel => exact ⟨rfl, _, rfl⟩
            · have te : ((k : Int) == (f : Int)) = false := by simp; omega
              have tw : IntKind.i64.wrap ((k : Int) - (f : Int)) = (k : Int) - (f : Int) := IntWalk.i64_in _ (by omega)
              cases rs with
              | nil =>
                have hr1 : re = true := hrei.2 ⟨by omega, .inl rfl⟩
                subst hr1
                have hz : nr = 0 := by have := Hnr.out; simp at this; omega
                have tl : decide ((0 : Int) < (nr : Int)) = false := by simp; omega
                have tl2 : decide (0 < nr) = false := by simp; omega
                clear hrei hcw hfe hz
                go_quiet (fail)
                go_wp2_with fail
                go_meet
                case rel => exact ⟨rfl, _, rfl⟩
              | cons a rs' =>
                have hnl : 0 < nr := by have := Hnr.out; simp at this; omega
                have tl : decide ((0 : Int) < (nr : Int)) = true := by simp; omega
                have tl2 : decide (0 < nr) = true := by simp; omega
                obtain ⟨ga, oa, rfl, hga, hca⟩ := (Hcell.out).at_ (k := 0) (by simp)
                have hcq : w5.cell? ⟨ga, oa + 0, none⟩ = some (.string (bytes a)) := by
                  have h1 := Ho5.out.block ga (by have := World.block_lt_of_cell? wr _ hca; simpa using this) (fun e => by have := (Hown.out.lt ga rfl).1; omega)
                  have h2 : wr.cell? ⟨ga, oa + 0, none⟩ = some (strV a) := by simpa using hca
                  rw [show strV a = .string (bytes a) from rfl] at h2
                  rw [← h2]
                  simp only [World.cell?, h1]
                rw [Nat.add_zero] at hcq
                obtain ⟨ba, hba⟩ : ∃ ba, bytes a = ba := ⟨_, rfl⟩
                have hsz : ba.size = wid (a :: rs') := by rw [← hba, size_bytes]; rfl
                have hcw2 := hcw (by simp)
                have tc : decide ((k : Int) - (f : Int) < (ba.size : Int)) = !re := by
                  rw [hsz]
                  cases re
                  · have h1 : ¬ (f < k ∧ (a :: rs' = [] ∨ k - f = wid (a :: rs'))) := fun h => by have := hrei.2 h; cases this
                    have h2 : k - f ≠ wid (a :: rs') := fun e => h1 ⟨by omega, .inr e⟩
                    simp only [Bool.not_false, decide_eq_true_eq]
                    omega
                  · have h1 := (hrei.1 rfl).2.resolve_left (by simp)
                    simp only [Bool.not_true, decide_eq_false_iff_not]
                    omega
                rw [hba] at hcq
                have jl : (0 : Int) < (nr : Int) := by omega
                clear hca hba hsz hnl hcw hcw2 hrei hfe
                go_quiet (fail)
                go_wp2_with fail
                go_meet
                case rel => exact ⟨by first | rfl | (rw [← tc]; simp), _, rfl⟩
          case rest =>
            obtain ⟨rfl, m, rfl⟩ := hcut
            clear hrei hcw hre
            cases re
            · have HF := hide (run_stop (by rw [Hlen.out]; exact hk) Hrunq.out Hgv.out (fun c _ h => by rw [Hre.out] at h; cases h.1))
              go_wp2_with fail
              go_ret2
              exact ⟨(Ho.out.trans Ho5.out).drewN m, .inl ⟨k, _, HF.out, rfl, Hr5.out.drewN m⟩⟩
            · have Hr6 := hide (Hr5.out.drewN m)
              have Ho6 := hide ((Ho.out.trans Ho5.out).drewN m)
              have Hown6 := hide (show (w5.drewN m).ownsRow w.heap.size 9 1 (.slice A nr c) nr (rs.map strV) from Hown5.out)
              obtain ⟨w6, hw6⟩ : ∃ w6, w5.drewN m = w6 := ⟨_, rfl⟩
              rw [hw6] at Hr6 Ho6 Hown6 ⊢
              clear hw6 Hr5 Ho5 Hown5
              have Hsz6 := hide (show w.heap.size ≤ w6.heap.size from Ho6.out.size)
              have HownA := hide (show World.ownsRow (w6.alloc (.cells #[.string (s.extract f k)] 9)).drew w.heap.size 9 1 (.slice A nr c) nr (rs.map strV) from World.ownsRow.alloc Hown6.out _)
              have HblkA := hide (show Blk (w6.alloc (.cells #[.string (s.extract f k)] 9)).drew w6.heap.size 9 [Value.string (s.extract f k)].toArray from Blk.new w6 _ _)
              have j1 : (0 : Int) ≤ (f : Int) := by omega
              have j2 : (f : Int) ≤ (k : Int) := by omega
              have j3 : (k : Int) ≤ (s.size : Int) := by omega
              have HS := hide (show ∀ w' : World, RdAt w' b s k → (w'.cell? ⟨b, 0, none⟩ = some (.string s) ∧ w'.cell? ⟨b, 1, none⟩ = some (.int .i64 (k : Int))) from fun w' h => ⟨h.cells.1, h.cells.2.1⟩)
              go_upto_region 7 with (fail)
              refine wp_region_held_drew (S := fun w' : World => (w'.cell? ⟨b, 0, none⟩ = some (.string s) ∧ w'.cell? ⟨b, 1, none⟩ = some (.int .i64 (k : Int)))) (by kernel_rfl) (HS.out _ Hr6.out.drew) (fun hHeld => ?_)
              refine wpAnyH_take (i := 0) (oi := ⟨some 83, _, _, _, _, _⟩) (v := ?_) rfl (by kernel_rfl) (by kernel_rfl) (by kernel_rfl) (fun _ _ _ h => h) (Or.inl ⟨by rfl, ?_⟩) (by assumption) ?_
              rotate_left 1
              · intro w hSw
                try dsimp only at hSw
                go_simp <;> with_reducible rfl
              try simp only [Act.put, List.setIfInBounds_toArray, List.set_cons_zero, List.set_cons_succ]
              refine wpAnyH_take (i := 1) (oi := ⟨some 84, _, _, _, _, _⟩) (v := ?_) rfl (by kernel_rfl) (by kernel_rfl) (by kernel_rfl) (fun _ _ _ h => h) (Or.inl ⟨by rfl, ?_⟩) (by assumption) ?_
              rotate_left 1
              · intro w hSw
                try dsimp only at hSw
                go_simp <;> with_reducible rfl
              try simp only [Act.put, List.setIfInBounds_toArray, List.set_cons_zero, List.set_cons_succ]
              refine wpAnyH_take (i := 2) (oi := ⟨some 85, _, _, _, _, _⟩) (v := ?_) rfl (by kernel_rfl) (by kernel_rfl) (by kernel_rfl) (fun _ _ _ h => h) (Or.inl ⟨by rfl, ?_⟩) (by assumption) ?_
              rotate_left 1
              · intro w hSw
                try dsimp only at hSw
                go_simp <;> with_reducible rfl
              try simp only [Act.put, List.setIfInBounds_toArray, List.set_cons_zero, List.set_cons_succ]
              refine wpAnyH_take (i := 3) (oi := ⟨some 86, _, _, _, _, _⟩) (v := ?_) rfl (by kernel_rfl) (by kernel_rfl) (by kernel_rfl) (fun _ _ _ h => h) (Or.inl ⟨by rfl, ?_⟩) (by assumption) ?_
              rotate_left 1
              · intro w hSw
                try dsimp only at hSw
                go_simp <;> with_reducible rfl
              try simp only [Act.put, List.setIfInBounds_toArray, List.set_cons_zero, List.set_cons_succ]
              refine wpAnyH_take (i := 4) (oi := ⟨some 87, _, _, _, _, _⟩) (v := ?_) rfl (by kernel_rfl) (by kernel_rfl) (by kernel_rfl) (fun _ _ _ h => h) (Or.inl ⟨by rfl, ?_⟩) (by assumption) ?_
              rotate_left 1
              · intro w hSw
                try dsimp only at hSw
                go_simp <;> with_reducible rfl
              try simp only [Act.put, List.setIfInBounds_toArray, List.set_cons_zero, List.set_cons_succ]
              refine wpAnyH_take (i := 5) (oi := ⟨some 88, _, _, _, _, _⟩) (v := ?_) rfl (by kernel_rfl) (by kernel_rfl) (by kernel_rfl) (fun _ _ _ h => h) (Or.inl ⟨by rfl, ?_⟩) (by assumption) ?_
              rotate_left 1
              · intro w hSw
                try dsimp only at hSw
                go_simp <;> with_reducible rfl
              try simp only [Act.put, List.setIfInBounds_toArray, List.set_cons_zero, List.set_cons_succ]
              refine wpAnyH_take (i := 6) (oi := ⟨some 89, _, _, _, _, _⟩) (v := ?_) rfl (by kernel_rfl) (by kernel_rfl) (by kernel_rfl) (fun _ _ _ h => h) (Or.inl ⟨by rfl, ?_⟩) (by assumption) ?_
              rotate_left 1
              · intro w hSw
                try dsimp only at hSw
                go_simp <;> with_reducible rfl
              try simp only [Act.put, List.setIfInBounds_toArray, List.set_cons_zero, List.set_cons_succ]
              refine wpAnyH_take (i := 7) (oi := ⟨some 90, _, _, _, _, _⟩) (v := ?_) rfl (by kernel_rfl) (by kernel_rfl) (by kernel_rfl) (fun _ _ _ h => h) (Or.inl ⟨by rfl, ?_⟩) (by assumption) ?_
              rotate_left 1
              · intro w hSw
                try dsimp only at hSw
                go_simp <;> with_reducible rfl
              try simp only [Act.put, List.setIfInBounds_toArray, List.set_cons_zero, List.set_cons_succ]
              refine wpAnyH_take (i := 8) (oi := ⟨some 91, _, _, _, _, _⟩) (v := ?_) rfl (by kernel_rfl) (by kernel_rfl) (by kernel_rfl) (fun _ _ _ h => h) (Or.inl ⟨by rfl, ?_⟩) (by assumption) ?_
              rotate_left 1
              · intro w hSw
                try dsimp only at hSw
                go_simp <;> with_reducible rfl
              try simp only [Act.put, List.setIfInBounds_toArray, List.set_cons_zero, List.set_cons_succ]
              refine wpAnyH_take (i := 9) (oi := ⟨some 92, _, _, _, _, _⟩) (v := ?_) rfl (by kernel_rfl) (by kernel_rfl) (by kernel_rfl) (fun _ _ _ h => h) (Or.inl ⟨by rfl, ?_⟩) (by assumption) ?_
              rotate_left 1
              · intro w hSw
                try dsimp only at hSw
                go_simp <;> with_reducible rfl
              try simp only [Act.put, List.setIfInBounds_toArray, List.set_cons_zero, List.set_cons_succ]
              refine wpAnyH_take (i := 10) (oi := ⟨some 93, _, _, _, _, _⟩) (v := ?_) rfl (by kernel_rfl) (by kernel_rfl) (by kernel_rfl) (fun _ _ _ h => h) (Or.inl ⟨by rfl, ?_⟩) (by assumption) ?_
              rotate_left 1
              · intro w hSw
                try dsimp only at hSw
                go_simp <;> with_reducible rfl
              try simp only [Act.put, List.setIfInBounds_toArray, List.set_cons_zero, List.set_cons_succ]
              refine wpAnyH_ready (rs := [11]) (by kernel_rfl) (by simp) ?_
              refine AllReadyH.cons (o := ⟨some 94, _, _, _, _, _⟩) rfl (fun K hK => ?_) ?_
              · clear hHeld
                go_simp
                refine hK.out _ _ (by first | exact HS.out _ Hr6.out.drew | exact HS.out _ (Blk.alloc Hr6.out _).drew | exact HS.out _ (Blk.only (show RdAt (w6.alloc (.cells #[.string (s.extract f k)] 9)).drew b s k from (Blk.alloc Hr6.out _).drew) hO8 (fun e => by have := (HownA.out.lt b e).1; omega))) (fun hHeld => ?_)
                clear hK K
                try simp only [Act.put, List.setIfInBounds_toArray, List.set_cons_zero, List.set_cons_succ]
                refine wpAnyH_ready (rs := [12]) (by kernel_rfl) (by simp) ?_
                refine AllReadyH.cons (o := ⟨some 95, _, _, _, _, _⟩) rfl (fun K hK => ?_) ?_
                · clear hHeld
                  refine step_appendK rfl (.tmp 83) (.tmp 94) 74 (by rfl) w.heap.size 9 i0 (.string ⟨#[]⟩) 1 16 Tryz.underlying74 Hi.out Hz0.out Hz1.out Hz2.out rfl (by decide) (.slice A nr c) nr (rs.map strV) (by rfl) HownA.out [.string (s.extract f k)] rfl w6.heap.size 9 (by rfl) HblkA.out ?h1 ?h2 ?h3 ?h4 ?_
                  case h1 => simp [Value.oneCell']
                  case h2 => unfold maxLen; omega
                  case h3 => omega
                  case h4 => have := Hsz6.out; simp; omega
                  intro g8 c8 w8 hown8 hO8 _
                  refine hK.out _ _ (by first | exact HS.out _ Hr6.out.drew | exact HS.out _ (Blk.alloc Hr6.out _).drew | exact HS.out _ (Blk.only (show RdAt (w6.alloc (.cells #[.string (s.extract f k)] 9)).drew b s k from (Blk.alloc Hr6.out _).drew) hO8 (fun e => by have := (HownA.out.lt b e).1; omega))) (fun hHeld => ?_)
                  clear hK K
                  try simp only [Act.put, List.setIfInBounds_toArray, List.set_cons_zero, List.set_cons_succ]
                  refine wpAnyH_take (i := 13) (oi := ⟨some 4, _, _, _, _, _⟩) (v := ?_) rfl (by kernel_rfl) (by kernel_rfl) (by kernel_rfl) (fun _ _ _ h => h) (Or.inl ⟨by rfl, ?_⟩) (by assumption) ?_
                  rotate_left 1
                  · intro w hSw
                    try dsimp only at hSw
                    go_simp <;> with_reducible rfl
                  try simp only [Act.put, List.setIfInBounds_toArray, List.set_cons_zero, List.set_cons_succ]
                  refine wpAnyH_done (by kernel_rfl) ?_ _
                  have Hr8 := hide (Blk.only (show RdAt (w6.alloc (.cells #[.string (s.extract f k)] 9)).drew b s k from (Blk.alloc Hr6.out _).drew) hO8 (fun e => by have := (HownA.out.lt b e).1; omega))
                  have Hown8 := hide (show w8.ownsRow w.heap.size 9 1 (.slice (some ⟨g8, 0, none⟩) (nr + 1) c8) (nr + 1) ((rs ++ [segL s.data.toList f k]).map strV) by rw [List.map_append, List.map_singleton, show strV (segL s.data.toList f k) = .string (s.extract f k) from by rw [ext_seg]; rfl]; exact hown8)
                  have Ho8 := hide (show Only (fun x => x = b) w w8 from ((Ho6.out.alloc (.cells #[.string (s.extract f k)] 9)).drew).trans' hO8 (fun x hx e => by have := (HownA.out.lt x e).1; omega))
                  clear hown8 hO8 hHeld
                  have Hx8ho := hide (fun (w' : World) (h : Only (fun x => x = b) w8 w') => Ho8.out.trans h)
                  have HL8 := hide (show (rs ++ [segL s.data.toList f k]).length = nr + 1 by rw [List.length_append, List.length_singleton, Hnr.out])
                  by_cases h7 : nr + 1 = 8
                  · have tn : ((nr : Int) + 1 == 8) = true := by simp; omega
                    have tn2 : (((nr + 1 : Nat) : Int) == 8) = true := by simp; omega
                    have H7 := hide h7
                    clear h7
                    go_wp2_with (go_at_call 155; refine (is_any b s k 32 _ Hr8.out hs).mono ?_; rintro e w9 ⟨ho9, ⟨hc9, rfl, hr9⟩ | ⟨hc9, rfl, hr9⟩⟩)
                    · have hl : k + 1 ≤ s.size := by
                        obtain ⟨x, hx, _⟩ := map_nat hc9
                        have := (List.getElem?_eq_some_iff.1 hx).1
                        have := Hlen.out
                        omega
                      have hT : runB (s.data.toList.take (k + 1)) = some (.turn (rs ++ [segL s.data.toList f k])) := by
                        obtain ⟨x, hx, he⟩ := map_nat hc9
                        exact run_blank Hrunq.out hx (u8_eq 32 rfl he) Hre.out
                      have HT := hide hT
                      have HL := hide (show (rs ++ [segL s.data.toList f k]).length = nr + 1 by rw [List.length_append, List.length_singleton, Hnr.out])
                      have HX := hide (Ho8.out.trans ho9)
                      have HO := hide (ownsRow_only Hown8.out ho9 (fun g hg e => by have := (Hown8.out.lt g hg).1; omega))
                      clear hT
                      go_ret2
                      exact ⟨HX.out, .inr ⟨k + 1, _, .slice (some ⟨g8, 0, none⟩) (nr + 1) c8, hl, HT.out, rfl, hr9, by rw [HL.out]; exact HO.out⟩⟩
                    · have HF := hide (run_stop (by rw [Hlen.out]; exact hk) Hrunq.out Hgv.out (fun x hx h => by
                        rcases h.2 with h | h
                        · exact absurd h.2 (by have := H7.out; rw [Hnr.out]; omega)
                        · exact hc9 (by rw [hx, h]; rfl)))
                      have HX := hide (Ho8.out.trans ho9)
                      go_ret2
                      exact ⟨HX.out, .inl ⟨k, _, HF.out, rfl, hr9⟩⟩
                  · have tn : ((nr : Int) + 1 == 8) = false := by simp; omega
                    have tn2 : (((nr + 1 : Nat) : Int) == 8) = false := by simp; omega
                    go_upto_region 9 with (go_at_call 155; refine (is_any b s k 47 _ Hr8.out hs).mono ?_; rintro e wa ⟨hoa, ⟨hca, rfl, hra⟩ | ⟨hca, rfl, hra⟩⟩)
                    · have hl : k + 1 ≤ s.size := by
                        obtain ⟨x, hx, _⟩ := map_nat hca
                        have := (List.getElem?_eq_some_iff.1 hx).1
                        have := Hlen.out
                        omega
                      have HT := hide (show runB (s.data.toList.take (k + 1)) = some (.rows (rs ++ [segL s.data.toList f k]) []) by
                        obtain ⟨x, hx, he⟩ := map_nat hca
                        exact run_slash Hrunq.out hx (u8_eq 47 rfl he) (by rw [Hnr.out]; omega) Hre.out)
                      have HX := hide (Hx8ho.out _ hoa)
                      have HO := hide (ownsRow_only Hown8.out hoa (fun g hg e => by have := (Hown8.out.lt g hg).1; omega))
                      go_roundw
                      case rel => exact ⟨k + 1, rs ++ [segL s.data.toList f k], hl, HT.out, hra, by rw [HL8.out]; exact HO.out, HX.out⟩
                      case measure => rw [atOf_eq hra, atOf_eq Hr.out]; omega
                    · have Hra := hide hra
                      have Hoa := hide (Hx8ho.out _ hoa)
                      have Howna := hide (ownsRow_only Hown8.out hoa (fun g hg e => by have := (Hown8.out.lt g hg).1; omega))
                      have Hca := hide hca
                      clear hra hoa hca
                      go_wp2_with (go_at_call 155; refine (is_any b s k 32 _ Hra.out hs).mono ?_; rintro e w9 ⟨ho9, ⟨hc9, rfl, hr9⟩ | ⟨hc9, rfl, hr9⟩⟩)
                      · have hl : k + 1 ≤ s.size := by
                          obtain ⟨x, hx, _⟩ := map_nat hc9
                          have := (List.getElem?_eq_some_iff.1 hx).1
                          have := Hlen.out
                          omega
                        have hT : runB (s.data.toList.take (k + 1)) = some (.turn (rs ++ [segL s.data.toList f k])) := by
                          obtain ⟨x, hx, he⟩ := map_nat hc9
                          exact run_blank Hrunq.out hx (u8_eq 32 rfl he) Hre.out
                        have HT := hide hT
                        have HL := hide (show (rs ++ [segL s.data.toList f k]).length = nr + 1 by rw [List.length_append, List.length_singleton, Hnr.out])
                        have HX := hide (Hoa.out.trans ho9)
                        have HO := hide (ownsRow_only Howna.out ho9 (fun g hg e => by have := (Hown8.out.lt g hg).1; omega))
                        clear hT
                        go_ret2
                        exact ⟨HX.out, .inr ⟨k + 1, _, .slice (some ⟨g8, 0, none⟩) (nr + 1) c8, hl, HT.out, rfl, hr9, by rw [HL.out]; exact HO.out⟩⟩
                      · have HF := hide (run_stop (by rw [Hlen.out]; exact hk) Hrunq.out Hgv.out (fun x hx h => by
                          rcases h.2 with h | h
                          · exact Hca.out (by rw [hx, h.1]; rfl)
                          · exact hc9 (by rw [hx, h]; rfl)))
                        have HX := hide (Hoa.out.trans ho9)
                        go_ret2
                        exact ⟨HX.out, .inl ⟨k, _, HF.out, rfl, hr9⟩⟩
                exact AllReadyH.nil
              exact AllReadyH.nil
        · have hks : k < s.size := by
            rcases Nat.lt_or_ge k s.size with h | h
            · exact h
            · rw [goR_end (by rw [Hlen.out]; exact h)] at hgv; cases hgv
          have tw3 : IntKind.i64.wrap ((k : Int) + 1) = (k : Int) + 1 := IntWalk.i64_in _ (by omega)
          have j1 : (0 : Int) ≤ (k : Int) := by omega
          obtain ⟨x0, x1, x2⟩ := Hr5.out.cells
          clear hgv
          go_wp2_with fail
          have hn : RdAt (w5.setCell ⟨b, 1, none⟩ (.int .i64 ((k : Int) + 1))) b s (k + 1) := Blk.set_ Hr5.out 1 _
          go_roundw
          case rel => exact ⟨k + 1, by omega, by omega, hn, run_go hfk Hrunq.out Hgv.out, Ho5.out.setCell (p := ⟨b, 1, none⟩) (.inl rfl) _⟩
          case measure => rw [atOf_eq hn, atOf_eq Hrq.out]; omega
end Go.Proofs.YtcdfeaodfmfdnaaGreatDoor
