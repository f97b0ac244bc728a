/- rules.kindName, takeName and readWay: walked. -/
import Derived.Test.YtcdfeaodfmfdnaaGreatDoorRxWayM
import Derived.Test.YtcdfeaodfmfdnaaGreatDoorRxNumM
import Derived.Deep.CutRange
import Derived.Deep.CutBlock
namespace Go.Proofs.YtcdfeaodfmfdnaaGreatDoor
open Go.RowKit

theorem Env.big {w : World} (h : Env w) : 5 < w.heap.size := by
  obtain ⟨e, h1, _⟩ := h.er
  have h2 := cell_lt_ (Lib.TabIs.cell (g := 5) h.tb (by kernel_rfl) 0 (by decide))
  have h3 := cell_lt_ h1
  simp only at h2 h3
  omega
theorem Env.step {S : Nat → Prop} {w w' : World} (h : Env w) (ho : Only S w w') (hS : ∀ i, S i → 5 < i) : Env w' := by
  obtain ⟨e1, h1, k1⟩ := h.es
  obtain ⟨e2, h2, k2⟩ := h.er
  have hc : ∀ {a : Addr} {v : Value}, a.block ≤ 5 → w.cell? a = some v → w'.cell? a = some v := fun {a v} ha hv => by
    rw [← hv]
    simp only [World.cell?, ho.block a.block (cell_lt_ hv) (fun hs => by have := hS _ hs; omega)]
  refine ⟨h.m.only' ho (fun hs => by have := hS _ hs; omega), ⟨e1, hc (by simp) h1, k1⟩, ⟨e2, hc (by simp) h2, k2⟩, ?_⟩
  have hbig := h.big
  have hb : Below 6 w w' := ⟨ho.os, ho.tape, ho.output, ho.size, fun i hi => ho.block i (by omega) (fun hs => by have := hS _ hs; omega)⟩
  exact var?_below (g := 5) hb (by kernel_rfl) (by omega) h.tb
theorem kind_idx0 (w : World) : (Instr.index 134 (.agg #[.string ⟨#[]⟩, .string ⟨#[108, 101, 97, 112]⟩, .string ⟨#[115, 108, 105, 100, 101]⟩, .string ⟨#[115, 116, 101, 112]⟩]) (.int .i64 0)).run Tryz.prog w = .ok (.string ⟨#[]⟩) w := by kernel_rfl
theorem kind_idx1 (w : World) : (Instr.index 134 (.agg #[.string ⟨#[]⟩, .string ⟨#[108, 101, 97, 112]⟩, .string ⟨#[115, 108, 105, 100, 101]⟩, .string ⟨#[115, 116, 101, 112]⟩]) (.int .i64 1)).run Tryz.prog w = .ok (.string ⟨#[108, 101, 97, 112]⟩) w := by kernel_rfl
theorem kind_idx2 (w : World) : (Instr.index 134 (.agg #[.string ⟨#[]⟩, .string ⟨#[108, 101, 97, 112]⟩, .string ⟨#[115, 108, 105, 100, 101]⟩, .string ⟨#[115, 116, 101, 112]⟩]) (.int .i64 2)).run Tryz.prog w = .ok (.string ⟨#[115, 108, 105, 100, 101]⟩) w := by kernel_rfl
theorem kind_idx3 (w : World) : (Instr.index 134 (.agg #[.string ⟨#[]⟩, .string ⟨#[108, 101, 97, 112]⟩, .string ⟨#[115, 108, 105, 100, 101]⟩, .string ⟨#[115, 116, 101, 112]⟩]) (.int .i64 3)).run Tryz.prog w = .ok (.string ⟨#[115, 116, 101, 112]⟩) w := by kernel_rfl
set_option maxRecDepth 100000 in
theorem kind_name0 (w : World) :
    Calls Tryz.prog 30 #[.int .i64 0] w fun e w' => e = .returned (.string ⟨#[]⟩) ∧ w' = w := by
  have hi := kind_idx0
  go_enter Tryz.func30, Tryz.ntmps30
  go_wp2_with fail
  go_ret
  exact ⟨rfl, rfl⟩
set_option maxRecDepth 100000 in
theorem kind_name1 (w : World) :
    Calls Tryz.prog 30 #[.int .i64 1] w fun e w' => e = .returned (.string ⟨#[108, 101, 97, 112]⟩) ∧ w' = w := by
  have hi := kind_idx1
  go_enter Tryz.func30, Tryz.ntmps30
  go_wp2_with fail
  go_ret
  exact ⟨rfl, rfl⟩
set_option maxRecDepth 100000 in
theorem kind_name2 (w : World) :
    Calls Tryz.prog 30 #[.int .i64 2] w fun e w' => e = .returned (.string ⟨#[115, 108, 105, 100, 101]⟩) ∧ w' = w := by
  have hi := kind_idx2
  go_enter Tryz.func30, Tryz.ntmps30
  go_wp2_with fail
  go_ret
  exact ⟨rfl, rfl⟩
set_option maxRecDepth 100000 in
theorem kind_name3 (w : World) :
    Calls Tryz.prog 30 #[.int .i64 3] w fun e w' => e = .returned (.string ⟨#[115, 116, 101, 112]⟩) ∧ w' = w := by
  have hi := kind_idx3
  go_enter Tryz.func30, Tryz.ntmps30
  go_wp2_with fail
  go_ret
  exact ⟨rfl, rfl⟩
theorem take_idx0 (w : World) : (Instr.index 135 (.agg #[.string ⟨#[]⟩, .string ⟨#[32, 116, 97, 107, 101]⟩, .string ⟨#[32, 113, 117, 105, 101, 116]⟩]) (.int .i64 0)).run Tryz.prog w = .ok (.string ⟨#[]⟩) w := by kernel_rfl
theorem take_idx1 (w : World) : (Instr.index 135 (.agg #[.string ⟨#[]⟩, .string ⟨#[32, 116, 97, 107, 101]⟩, .string ⟨#[32, 113, 117, 105, 101, 116]⟩]) (.int .i64 1)).run Tryz.prog w = .ok (.string ⟨#[32, 116, 97, 107, 101]⟩) w := by kernel_rfl
theorem take_idx2 (w : World) : (Instr.index 135 (.agg #[.string ⟨#[]⟩, .string ⟨#[32, 116, 97, 107, 101]⟩, .string ⟨#[32, 113, 117, 105, 101, 116]⟩]) (.int .i64 2)).run Tryz.prog w = .ok (.string ⟨#[32, 113, 117, 105, 101, 116]⟩) w := by kernel_rfl
set_option maxRecDepth 100000 in
theorem take_name0 (w : World) :
    Calls Tryz.prog 31 #[.int .i64 0] w fun e w' => e = .returned (.string ⟨#[]⟩) ∧ w' = w := by
  have hi := take_idx0
  go_enter Tryz.func31, Tryz.ntmps31
  go_wp2_with fail
  go_ret
  exact ⟨rfl, rfl⟩
set_option maxRecDepth 100000 in
theorem take_name1 (w : World) :
    Calls Tryz.prog 31 #[.int .i64 1] w fun e w' => e = .returned (.string ⟨#[32, 116, 97, 107, 101]⟩) ∧ w' = w := by
  have hi := take_idx1
  go_enter Tryz.func31, Tryz.ntmps31
  go_wp2_with fail
  go_ret
  exact ⟨rfl, rfl⟩
set_option maxRecDepth 100000 in
theorem take_name2 (w : World) :
    Calls Tryz.prog 31 #[.int .i64 2] w fun e w' => e = .returned (.string ⟨#[32, 113, 117, 105, 101, 116]⟩) ∧ w' = w := by
  have hi := take_idx2
  go_enter Tryz.func31, Tryz.ntmps31
  go_wp2_with fail
  go_ret
  exact ⟨rfl, rfl⟩
theorem Blk.four_ {w : World} {g : Nat} {t : TypeId} {a b c d : Value} (h : Blk w g t #[a, b, c, d]) :
    w.cell? ⟨g, 0, none⟩ = some a ∧ w.cell? ⟨g, 1, none⟩ = some b ∧ w.cell? ⟨g, 2, none⟩ = some c ∧ w.cell? ⟨g, 3, none⟩ = some d ∧ ∀ i, w.frozen? ⟨g, i, none⟩ = false :=
  ⟨h.cellv rfl, h.cellv rfl, h.cellv rfl, h.cellv rfl, h.free⟩
theorem num_ex (l : List UInt8) : ∃ n ok, NumP l n ok := by
  by_cases h : ∃ m : Nat, m ≤ 9999 ∧ l = Lib.decDigits m
  · obtain ⟨m, h1, h2⟩ := h
    exact ⟨m, true, fun _ => ⟨m, rfl, h1, h2⟩, fun _ _ _ => rfl⟩
  · exact ⟨0, false, fun h => (by cases h), fun m h1 h2 => absurd ⟨m, h1, h2⟩ h⟩
theorem way_no {l : List UInt8} (h3 : (splitL 32 l).length ≠ 3) (h4 : (splitL 32 l).length ≠ 4) (w : WayD) : WayP l w false := by
  obtain ⟨x, okx, hx⟩ := num_ex ((splitL 32 l).getD 1 [])
  obtain ⟨y, oky, hy⟩ := num_ex ((splitL 32 l).getD 2 [])
  have h := way_says hx hy
  have e : wayFB (splitL 32 l) okx oky = false := by simp [wayFB, h3, h4]
  rw [e] at h
  exact ⟨fun h => (by cases h), h.2⟩
def kindTo (a : List UInt8) (k : Nat) : Int := if a = kindL 1 ∧ 1 < k then 1 else if a = kindL 2 ∧ 2 < k then 2 else if a = kindL 3 ∧ 3 < k then 3 else 0
theorem kindTo_end (a : List UInt8) : kindTo a 4 = kindOf a := by simp [kindTo, kindOf]
theorem kindTo_start (a : List UInt8) : kindTo a 1 = 0 := by simp [kindTo]
def takeTo (a : List UInt8) (k : Nat) : Int := if 32 :: a = takeL 1 ∧ 1 < k then 1 else if 32 :: a = takeL 2 ∧ 2 < k then 2 else 0
theorem takeTo_end (a : List UInt8) : takeTo a 3 = takeOf a := by simp [takeTo, takeOf]
theorem takeTo_start (a : List UInt8) : takeTo a 1 = 0 := by simp [takeTo]
/-- what readWay answers -/
def WayOut (s : ByteArray) (w : World) (e : Ending) (w' : World) : Prop :=
  (∃ v : WayD, ∃ ok, e = .returned (.tuple #[.agg #[.int .i64 v.kind, .int .i64 v.x, .int .i64 v.y, .int .i64 v.take], .bool ok]) ∧ WayP s.data.toList v ok) ∧ Only (fun _ => False) w w'
set_option maxHeartbeats 16000000 in
set_option maxRecDepth 100000 in
theorem readWay_any (s : ByteArray) (W : World) (hs : s.size < 4294967281) (he : Env W) :
    Calls Tryz.prog 116 #[.string s] W (WayOut s W) := by
  have hbig := he.big
  go_enter Tryz.func116, Tryz.ntmps116
  go_upto_region 1 with (fail)
  have HZ0 := hide (Blk.new W 80 #[.int .i64 0, .int .i64 0, .int .i64 0, .int .i64 0])
  have ho0 : Only (fun _ => False) W (W.alloc (.cells #[.int .i64 0, .int .i64 0, .int .i64 0, .int .i64 0] 80)) := (Only.refl _ W).alloc _
  have hsz0 : (W.alloc (.cells #[.int .i64 0, .int .i64 0, .int .i64 0, .int .i64 0] 80)).heap.size = W.heap.size + 1 := World.size_alloc _ _
  obtain ⟨w0, hw0⟩ : ∃ w0, W.alloc (.cells #[.int .i64 0, .int .i64 0, .int .i64 0, .int .i64 0] 80) = w0 := ⟨_, rfl⟩
  rw [hw0] at HZ0 ho0 hsz0 ⊢
  obtain ⟨g0, hg0⟩ : ∃ g0, W.heap.size = g0 := ⟨_, rfl⟩
  have HE0 := hide (he.no ho0)
  have HO0 := hide ho0
  rw [hg0] at HZ0 hsz0 hbig ⊢
  have Hg0 := hide hg0
  have Hsz0 := hide hsz0
  clear hw0 ho0 he hg0 hsz0
  have H1 := hide (split_any 32 s w0 hs HE0.out.m)
  go_upto_region 2 with (go_at_call 33; refine H1.out.mono ?_; rintro e w1 ⟨np, hnp, rfl, hp, ho1, hsz1⟩; have Hnp := hide hnp; clear hnp hsz1)
  have hpl : ∀ a ∈ splitL 32 s.data.toList, a.length ≤ s.size := fun a ha => by have := splitL_mem ha; simpa using this
  obtain ⟨P, hP⟩ : ∃ P, splitL 32 s.data.toList = P := ⟨_, rfl⟩
  have HPe := hide hP
  rw [hP] at Hnp hp hpl
  have HE1 := hide (HE0.out.no ho1)
  have HO1 := hide (HO0.out.trans ho1)
  have HZ1 := hide (HZ0.out.only ho1 (fun h => h))
  have HP1 := hide hp
  have Hpl := hide hpl
  obtain ⟨g1, hg1⟩ : ∃ g1, w0.heap.size = g1 := ⟨_, rfl⟩
  rw [hg1] at HP1 Hsz0 ⊢
  have hg10 : g0 < g1 := by rw [Hsz0.out]; omega
  clear hP hp hpl ho1 hg1 HE0 HZ0 HO0 H1
  by_cases h34 : np = 3 ∨ np = 4
  case neg =>
    have d3 : ((np : Int) != 3) = true := by rw [bne_iff_ne]; omega
    have d3n : (np != 3) = true := by rw [bne_iff_ne]; omega
    have d4 : ((np : Int) != 4) = true := by rw [bne_iff_ne]; omega
    have d4n : (np != 4) = true := by rw [bne_iff_ne]; omega
    have HNO := hide (way_no (l := s.data.toList) (by rw [HPe.out, ← Hnp.out]; omega) (by rw [HPe.out, ← Hnp.out]; omega) ⟨0, 0, 0, 0⟩)
    have hgw := Hg0.out
    obtain ⟨z0, z1, z2, z3, -⟩ := Blk.four_ HZ1.out
    clear h34
    go_upto_region 3 with (fail)
    refine wp_region_lit ?_
    refine wpList_plain rfl (fun K hK => ?_)
    go_simp
    refine hK _ _ ?_
    clear hK K
    refine wpList_plain rfl (fun K hK => ?_)
    refine wp_store_row 80 (.tmp 2) (.tmp 21) rfl g0 #[.int .i64 0, .int .i64 0, .int .i64 0, .int .i64 0] rfl rfl 80 _ HZ1.out (by kernel_rfl) (by simp) (by simp [Value.oneCell']) ?_
    refine hK _ _ ?_
    clear hK K z0 z1 z2 z3
    have hzz := setRow_blk2 (vs := #[.int .i64 0, .int .i64 0, .int .i64 0, .int .i64 0]) HZ1.out
    have HX := hide (only_setRow (g := g0) (vs := #[.int .i64 0, .int .i64 0, .int .i64 0, .int .i64 0]) HO1.out (by omega))
    obtain ⟨z0, z1, z2, z3, -⟩ := Blk.four_ hzz
    go_wp2_with fail
    refine bodyPost_ret (v := .tuple #[.agg #[.int .i64 0, .int .i64 0, .int .i64 0, .int .i64 0], .bool false]) (by simp [results, Tryz.results116, go_sem, z0, z1, z2, z3]) rfl ⟨⟨⟨0, 0, 0, 0⟩, false, rfl, HNO.out⟩, HX.out⟩
  obtain ⟨b4, hb4⟩ : ∃ b4 : Bool, decide (np = 4) = b4 := ⟨_, rfl⟩
  have Hb4 := hide hb4
  have h3 : 3 ≤ np := by omega
  have n2 : (2 : Int) < (np : Int) := by omega
  have d3 : ((np : Int) != 3) = b4 := by rw [← hb4, Bool.eq_iff_iff]; simp; omega
  have d4 : ((np : Int) != 4) = !b4 := by rw [← hb4, Bool.eq_iff_iff]; simp; omega
  have d4e : ((np : Int) == 4) = b4 := by rw [← hb4, Bool.eq_iff_iff]; simp; omega
  have d3e : ((np : Int) == 3) = !b4 := by rw [← hb4, Bool.eq_iff_iff]; simp; omega
  have H34 := hide h34
  clear hb4 h34
  go_cut [20] from 13 to 20 (fun x w' => x = .bool false ∧ w' = w1)
  case first =>
    cases b4
    · go_wp2_with fail
      go_meet
      case rel => exact ⟨rfl, rfl⟩
    · go_wp2_with fail
      go_meet
      case rel => exact ⟨rfl, rfl⟩
  case rest =>
    obtain ⟨rfl, rfl⟩ := hcut
    rename World => w1
    obtain ⟨a, ha⟩ : ∃ a, P.getD 0 [] = a := ⟨_, rfl⟩
    obtain ⟨sa, hsa⟩ : ∃ sa, bytes a = sa := ⟨_, rfl⟩
    have Hsa := hide (show sa.toList = a from by rw [← hsa, Go.ByteArray.toList_eq, bytes_list])
    have Hca := hide (fun (w' : World) (h : RowsAt w' g1 P) => (show w'.cell? ⟨g1, 0, none⟩ = some (.string sa) from by rw [h.cellD (i := 0) (by rw [← Hnp.out]; omega), ha, hsa]))
    have HAe := hide ha
    clear ha hsa
    go_wp2_with fail
    go_loopw [5] (fun kv wr => ∃ k : Nat, 1 ≤ k ∧ k ≤ 4 ∧ kv = .int .i64 (k : Int) ∧ Only (fun x => x = g0) w1 wr ∧ Blk wr g0 80 #[.int .i64 (kindTo a k), .int .i64 0, .int .i64 0, .int .i64 0]) (fun kv _ => 4 - (intOf kv).toNat)
    case atStart => exact ⟨1, by omega, by omega, rfl, Only.refl _ _, by rw [kindTo_start]; exact HZ1.out⟩
    case round =>
      rename World => wr
      obtain ⟨k, hk1, hk4, rfl, ho, hz⟩ := hrel
      have HO := hide ho
      have HZ := hide hz
      have hpr : RowsAt wr g1 P := Blk.only HP1.out ho (by omega)
      have ca := Hca.out _ hpr
      clear ho hz
      obtain ⟨z0, z1, z2, z3, zf⟩ := Blk.four_ HZ.out
      have zf0 := zf 0
      clear zf
      rcases (show k = 1 ∨ k = 2 ∨ k = 3 ∨ k = 4 by omega) with rfl | rfl | rfl | rfl
      · have hi := kind_name1
        by_cases e : sa.toList = [108, 101, 97, 112]
        · have q : (sa.toList == [108, 101, 97, 112]) = true := by rw [e]; rfl
          have hk : kindTo a 2 = 1 := by
            have ea : a = kindL 1 := by rw [← Hsa.out, e]; rfl
            rw [ea]; decide
          have Hk := hide hk
          clear e hk
          go_upto_region 7 with (fail)
          go_quiet ((go_at_call 30; exact Calls.quiet_of_same (hi _)))
          go_wp2_with fail
          go_roundw
          case rel => exact ⟨2, by omega, by omega, by go_num, (HO.out.drewN _).setCell (p := ⟨g0, 0, none⟩) (.inl rfl) _, by rw [Hk.out]; exact Blk.set_ HZ.out 0 _⟩
          case measure => simp [intOf]
        · have q : (sa.toList == [108, 101, 97, 112]) = false := by rw [beq_eq_false_iff_ne]; exact e
          have hk : kindTo a 2 = kindTo a 1 := by
            have ea : a ≠ kindL 1 := by rw [← Hsa.out]; exact e
            simp [kindTo, ea]
          have Hk := hide hk
          clear e hk
          go_upto_region 7 with (fail)
          go_quiet ((go_at_call 30; exact Calls.quiet_of_same (hi _)))
          go_wp2_with fail
          go_roundw
          case rel => exact ⟨2, by omega, by omega, by go_num, HO.out.drewN _, by rw [Hk.out]; exact HZ.out⟩
          case measure => simp [intOf]
      · have hi := kind_name2
        by_cases e : sa.toList = [115, 108, 105, 100, 101]
        · have q : (sa.toList == [115, 108, 105, 100, 101]) = true := by rw [e]; rfl
          have hk : kindTo a 3 = 2 := by
            have ea : a = kindL 2 := by rw [← Hsa.out, e]; rfl
            rw [ea]; decide
          have Hk := hide hk
          clear e hk
          go_upto_region 7 with (fail)
          go_quiet ((go_at_call 30; exact Calls.quiet_of_same (hi _)))
          go_wp2_with fail
          go_roundw
          case rel => exact ⟨3, by omega, by omega, by go_num, (HO.out.drewN _).setCell (p := ⟨g0, 0, none⟩) (.inl rfl) _, by rw [Hk.out]; exact Blk.set_ HZ.out 0 _⟩
          case measure => simp [intOf]
        · have q : (sa.toList == [115, 108, 105, 100, 101]) = false := by rw [beq_eq_false_iff_ne]; exact e
          have hk : kindTo a 3 = kindTo a 2 := by
            have ea : a ≠ kindL 2 := by rw [← Hsa.out]; exact e
            simp [kindTo, ea]
          have Hk := hide hk
          clear e hk
          go_upto_region 7 with (fail)
          go_quiet ((go_at_call 30; exact Calls.quiet_of_same (hi _)))
          go_wp2_with fail
          go_roundw
          case rel => exact ⟨3, by omega, by omega, by go_num, HO.out.drewN _, by rw [Hk.out]; exact HZ.out⟩
          case measure => simp [intOf]
      · have hi := kind_name3
        by_cases e : sa.toList = [115, 116, 101, 112]
        · have q : (sa.toList == [115, 116, 101, 112]) = true := by rw [e]; rfl
          have hk : kindTo a 4 = 3 := by
            have ea : a = kindL 3 := by rw [← Hsa.out, e]; rfl
            rw [ea]; decide
          have Hk := hide hk
          clear e hk
          go_upto_region 7 with (fail)
          go_quiet ((go_at_call 30; exact Calls.quiet_of_same (hi _)))
          go_wp2_with fail
          go_roundw
          case rel => exact ⟨4, by omega, by omega, by go_num, (HO.out.drewN _).setCell (p := ⟨g0, 0, none⟩) (.inl rfl) _, by rw [Hk.out]; exact Blk.set_ HZ.out 0 _⟩
          case measure => simp [intOf]
        · have q : (sa.toList == [115, 116, 101, 112]) = false := by rw [beq_eq_false_iff_ne]; exact e
          have hk : kindTo a 4 = kindTo a 3 := by
            have ea : a ≠ kindL 3 := by rw [← Hsa.out]; exact e
            simp [kindTo, ea]
          have Hk := hide hk
          clear e hk
          go_upto_region 7 with (fail)
          go_quiet ((go_at_call 30; exact Calls.quiet_of_same (hi _)))
          go_wp2_with fail
          go_roundw
          case rel => exact ⟨4, by omega, by omega, by go_num, HO.out.drewN _, by rw [Hk.out]; exact HZ.out⟩
          case measure => simp [intOf]
      · have HZ2 := hide (show Blk wr g0 80 #[.int .i64 (kindOf a), .int .i64 0, .int .i64 0, .int .i64 0] from by rw [← kindTo_end]; exact HZ.out)
        clear HZ z0 z1 z2 z3 zf0
        obtain ⟨kd, hkd⟩ : ∃ kd, kindOf a = kd := ⟨_, rfl⟩
        rw [hkd] at HZ2
        have Hkd := hide hkd
        clear hkd
        go_upto_region 9 with (fail)
        obtain ⟨d, hd⟩ : ∃ d, P.getD 3 [] = d := ⟨_, rfl⟩
        obtain ⟨sd, hsd⟩ : ∃ sd, bytes d = sd := ⟨_, rfl⟩
        have Hsd := hide (show (⟨#[32]⟩ ++ sd : ByteArray).toList = 32 :: d from by rw [← hsd, show (⟨#[32]⟩ : ByteArray) = bytes [32] from rfl, bytes_cat, Go.ByteArray.toList_eq, bytes_list]; rfl)
        have Hcd := hide (fun (hb : b4 = true) (w' : World) (h : RowsAt w' g1 P) => (show w'.cell? ⟨g1, 3, none⟩ = some (.string sd) ∧ (3 : Int) < (np : Int) from by
          have h4 : np = 4 := by have := Hb4.out; rw [hb] at this; simpa using this
          exact ⟨by rw [h.cellD (i := 3) (by rw [← Hnp.out]; omega), hd, hsd], by omega⟩))
        have hsdl : b4 = true → sd.size ≤ s.size := fun hb => by
          have h4 : np = 4 := by have := Hb4.out; rw [hb] at this; simpa using this
          rw [← hsd, size_bytes, ← hd]; exact Hpl.out _ (getD_mem (by rw [← Hnp.out]; omega))
        have Hsdl := hide hsdl
        have Hd := hide hd
        obtain ⟨tk, htk⟩ : ∃ tk, (if b4 = true then takeOf d else 0) = tk := ⟨_, rfl⟩
        have Htk := hide htk
        clear hd hsd htk hsdl
        go_upto_block 2 with (fail)
        go_cut [6] from 34 to 51 (fun _ w' => Only (fun x => x = g0) w1 w' ∧ Blk w' g0 80 #[.int .i64 kd, .int .i64 0, .int .i64 0, .int .i64 tk])
        case first =>
          go_wp2_with fail
          go_loopw [6] (fun kv wx => ∃ k : Nat, 1 ≤ k ∧ k ≤ 3 ∧ kv = .int .i64 (k : Int) ∧ Only (fun x => x = g0) w1 wx ∧ Blk wx g0 80 #[.int .i64 kd, .int .i64 0, .int .i64 0, .int .i64 (if b4 = true then takeTo d k else 0)]) (fun kv _ => 3 - (intOf kv).toNat)
          case atStart => exact ⟨1, by omega, by omega, rfl, HO.out, by rw [takeTo_start]; simpa using HZ2.out⟩
          case round =>
            rename World => wx
            obtain ⟨k, hk1, hk3, rfl, ho, hz⟩ := hrel
            have HOx := hide ho
            have HZx := hide hz
            have hpr : RowsAt wx g1 P := Blk.only HP1.out ho (by omega)
            clear ho hz HO HZ2
            cases b4
            case false =>
              have Hend := hide (show Blk wx g0 80 #[.int .i64 kd, .int .i64 0, .int .i64 0, .int .i64 tk] from by rw [← Htk.out]; exact HZx.out)
              go_wp2_with fail
              go_meet
              case rel => exact ⟨HOx.out, Hend.out⟩
            case true =>
              obtain ⟨cd, n3⟩ := Hcd.out rfl _ hpr
              have sdl := Hsdl.out rfl
              obtain ⟨z0, z1, z2, z3, zf⟩ := Blk.four_ HZx.out
              have zf3 := zf 3
              clear zf
              rcases (show k = 1 ∨ k = 2 ∨ k = 3 by omega) with rfl | rfl | rfl
              · have hi := take_name1
                by_cases e : (⟨#[32]⟩ ++ sd : ByteArray).toList = [32, 116, 97, 107, 101]
                · have q : ((⟨#[32]⟩ ++ sd : ByteArray).toList == [32, 116, 97, 107, 101]) = true := by rw [e]; rfl
                  have hk : takeTo d 2 = 1 := by
                    have ea : 32 :: d = takeL 1 := by rw [← Hsd.out, e]; rfl
                    unfold takeTo
                    rw [ea]; decide
                  have Hk := hide hk
                  clear e hk
                  go_upto_region 12 with (fail)
                  go_quiet ((go_at_call 31; exact Calls.quiet_of_same (hi _)))
                  go_wp2_with fail
                  go_roundw
                  case rel => exact ⟨2, by omega, by omega, by go_num, (HOx.out.drewN _).setCell (p := ⟨g0, 3, none⟩) (.inl rfl) _, by rw [Hk.out]; exact Blk.set_ HZx.out 3 _⟩
                  case measure => simp [intOf]
                · have q : ((⟨#[32]⟩ ++ sd : ByteArray).toList == [32, 116, 97, 107, 101]) = false := by rw [beq_eq_false_iff_ne]; exact e
                  have hk : takeTo d 2 = takeTo d 1 := by
                    have ea : 32 :: d ≠ takeL 1 := by rw [← Hsd.out]; exact e
                    simp [takeTo, ea]
                  have Hk := hide hk
                  clear e hk
                  go_upto_region 12 with (fail)
                  go_quiet ((go_at_call 31; exact Calls.quiet_of_same (hi _)))
                  go_wp2_with fail
                  go_roundw
                  case rel => exact ⟨2, by omega, by omega, by go_num, HOx.out.drewN _, by rw [Hk.out]; exact HZx.out⟩
                  case measure => simp [intOf]
              · have hi := take_name2
                by_cases e : (⟨#[32]⟩ ++ sd : ByteArray).toList = [32, 113, 117, 105, 101, 116]
                · have q : ((⟨#[32]⟩ ++ sd : ByteArray).toList == [32, 113, 117, 105, 101, 116]) = true := by rw [e]; rfl
                  have hk : takeTo d 3 = 2 := by
                    have ea : 32 :: d = takeL 2 := by rw [← Hsd.out, e]; rfl
                    unfold takeTo
                    rw [ea]; decide
                  have Hk := hide hk
                  clear e hk
                  go_upto_region 12 with (fail)
                  go_quiet ((go_at_call 31; exact Calls.quiet_of_same (hi _)))
                  go_wp2_with fail
                  go_roundw
                  case rel => exact ⟨3, by omega, by omega, by go_num, (HOx.out.drewN _).setCell (p := ⟨g0, 3, none⟩) (.inl rfl) _, by rw [Hk.out]; exact Blk.set_ HZx.out 3 _⟩
                  case measure => simp [intOf]
                · have q : ((⟨#[32]⟩ ++ sd : ByteArray).toList == [32, 113, 117, 105, 101, 116]) = false := by rw [beq_eq_false_iff_ne]; exact e
                  have hk : takeTo d 3 = takeTo d 2 := by
                    have ea : 32 :: d ≠ takeL 2 := by rw [← Hsd.out]; exact e
                    simp [takeTo, ea]
                  have Hk := hide hk
                  clear e hk
                  go_upto_region 12 with (fail)
                  go_quiet ((go_at_call 31; exact Calls.quiet_of_same (hi _)))
                  go_wp2_with fail
                  go_roundw
                  case rel => exact ⟨3, by omega, by omega, by go_num, HOx.out.drewN _, by rw [Hk.out]; exact HZx.out⟩
                  case measure => simp [intOf]
              · have Hend := hide (show Blk wx g0 80 #[.int .i64 kd, .int .i64 0, .int .i64 0, .int .i64 tk] from by rw [← Htk.out]; have h := HZx.out; rw [takeTo_end] at h; exact h)
                go_wp2_with fail
                go_meet
                case rel => exact ⟨HOx.out, Hend.out⟩
        case rest =>
          rename World => wv
          obtain ⟨ho, hz⟩ := hcut
          have HE3 := hide (HE1.out.step ho (fun i hi => by omega))
          have HO3 := hide (HO1.out.trans' ho (fun i hi hs => by have := Hg0.out; omega))
          have HZ3 := hide hz
          have hpr : RowsAt wv g1 P := Blk.only HP1.out ho (by omega)
          have HP3 := hide hpr
          have c1 := hpr.cellD (i := 1) (by rw [← Hnp.out]; omega)
          have l1 : (bytes (P.getD 1 [])).size ≤ 281474976710656 := by rw [size_bytes]; have := Hpl.out _ (getD_mem (xs := P) (i := 1) (by rw [← Hnp.out]; omega)); omega
          have l2 : (bytes (P.getD 2 [])).size ≤ 281474976710656 := by rw [size_bytes]; have := Hpl.out _ (getD_mem (xs := P) (i := 2) (by rw [← Hnp.out]; omega)); omega
          obtain ⟨s1, hs1⟩ : ∃ s1, bytes (P.getD 1 []) = s1 := ⟨_, rfl⟩
          obtain ⟨s2, hs2⟩ : ∃ s2, bytes (P.getD 2 []) = s2 := ⟨_, rfl⟩
          have Hs1 := hide (show s1.data.toList = P.getD 1 [] from by rw [← hs1, bytes_list])
          have Hs2 := hide (show s2.data.toList = P.getD 2 [] from by rw [← hs2, bytes_list])
          have Hc2 := hide (fun (w' : World) (h : RowsAt w' g1 P) => (show w'.cell? ⟨g1, 2, none⟩ = some (.string s2) from by rw [h.cellD (i := 2) (by rw [← Hnp.out]; omega), hs2]))
          rw [hs1] at c1 l1
          rw [hs2] at l2
          have n1 : (1 : Int) < (np : Int) := by omega
          have HN1 := hide (number_any s1 wv l1 HE3.out)
          clear ho hz hpr hs1 hs2 HO HZ2 Hcd Hsdl Hsd HP1 HE1 HO1 HZ1 Hca
          go_upto_region 15 with (go_at_call 77; refine HN1.out.mono ?_; rintro e wx ⟨⟨x, okx, rfl, hx⟩, hox⟩; have Hx := hide hx; clear hx)
          have HE4 := hide (HE3.out.no hox)
          have HO4 := hide (HO3.out.trans hox)
          have HZ4 := hide (HZ3.out.only hox (fun h => h))
          have hpr : RowsAt wx g1 P := Blk.only HP3.out hox (fun h => h)
          have c2 := Hc2.out _ hpr
          have HN2 := hide (number_any s2 wx l2 HE4.out)
          clear hox hpr HE3 HO3 HZ3 HP3 c1 HN1
          go_upto_region 16 with (go_at_call 77; refine HN2.out.mono ?_; rintro e wy ⟨⟨y, oky, rfl, hy⟩, hoy⟩; have Hy := hide hy; clear hy)
          have HO5 := hide (HO4.out.trans hoy)
          have HZ5 := hide (HZ4.out.only hoy (fun h => h))
          clear hoy HE4 HO4 HZ4 c2 HN2 Hc2
          have HW := hide (show WayP s.data.toList ⟨kd, x, y, tk⟩ (wayFB P okx oky) from by
            have h := way_says (l := s.data.toList) (by rw [HPe.out, ← Hs1.out]; exact Hx.out) (by rw [HPe.out, ← Hs2.out]; exact Hy.out)
            rw [HPe.out] at h
            have e : wayOf P x y = ⟨kd, x, y, tk⟩ := by
              unfold wayOf
              rw [HAe.out, Hkd.out, Hd.out, ← Htk.out, ← Hnp.out]
              have h4 := Hb4.out
              cases b4
              · rw [if_neg (by simpa using h4), if_neg (by simp)]
              · rw [if_pos (by simpa using h4), if_pos rfl]
            rw [e] at h
            exact h)
          have HWB := hide (show wayFB P okx oky = (decide (0 < kd) && ((!b4 || decide (0 < tk)) && (okx && oky))) from by
            unfold wayFB
            rw [HAe.out, Hkd.out, Hd.out, ← Hnp.out]
            have h4 := Hb4.out
            have h34 := H34.out
            have ht := Htk.out
            cases b4
            · have e3 : np = 3 := by have h5 := of_decide_eq_false h4; omega
              subst e3; simp
            · have e4 : np = 4 := of_decide_eq_true h4
              subst e4
              rw [if_pos rfl] at ht
              rw [ht]; simp)
          obtain ⟨z0, z1, z2, z3, zf⟩ := Blk.four_ HZ5.out
          have zf1 := zf 1
          have zf2 := zf 2
          clear zf
          go_upto_region 17 with (fail)
          have HZ6 := hide (show Blk ((wy.setCell ⟨g0, 1, none⟩ (.int .i64 x)).setCell ⟨g0, 2, none⟩ (.int .i64 y)) g0 80 #[.int .i64 kd, .int .i64 x, .int .i64 y, .int .i64 tk] from Blk.set_ (Blk.set_ HZ5.out 1 _) 2 _)
          have HO6 := hide ((HO5.out.setCell (p := ⟨g0, 1, none⟩) (.inr (by rw [Hg0.out]; exact Nat.le_refl _)) (.int .i64 x)).setCell (p := ⟨g0, 2, none⟩) (.inr (by rw [Hg0.out]; exact Nat.le_refl _)) (.int .i64 y))
          obtain ⟨w6, hw6⟩ : ∃ w6, (wy.setCell ⟨g0, 1, none⟩ (.int .i64 x)).setCell ⟨g0, 2, none⟩ (.int .i64 y) = w6 := ⟨_, rfl⟩
          rw [hw6] at HZ6 HO6 ⊢
          clear hw6 z0 z1 z2 z3 zf1 zf2 HZ5 HO5
          obtain ⟨z0, z1, z2, z3, zf⟩ := Blk.four_ HZ6.out
          have zf0 := zf 0
          have zf1 := zf 1
          have zf2 := zf 2
          have zf3 := zf 3
          clear zf
          obtain ⟨bk, hbk⟩ : ∃ bk, decide (0 < kd) = bk := ⟨_, rfl⟩
          obtain ⟨bt, hbt⟩ : ∃ bt, decide (0 < tk) = bt := ⟨_, rfl⟩
          rw [hbk, hbt] at HWB
          have hz7 : Blk _ g0 80 #[.int .i64 kd, .int .i64 x, .int .i64 y, .int .i64 tk] := Blk.set_ (Blk.set_ (Blk.set_ (Blk.set_ HZ6.out 0 (.int .i64 kd)) 1 (.int .i64 x)) 2 (.int .i64 y)) 3 (.int .i64 tk)
          have HZ7 := hide hz7
          have hge : W.heap.size ≤ g0 := by rw [Hg0.out]; exact Nat.le_refl _
          have HO7 := hide ((((HO6.out.setCell (p := ⟨g0, 0, none⟩) (.inr hge) (.int .i64 kd)).setCell (p := ⟨g0, 1, none⟩) (.inr hge) (.int .i64 x)).setCell (p := ⟨g0, 2, none⟩) (.inr hge) (.int .i64 y)).setCell (p := ⟨g0, 3, none⟩) (.inr hge) (.int .i64 tk))
          clear hz7 hge HZ6 HO6
          cases bk
          case false =>
            rw [Bool.false_and] at HWB
            go_wp2_with fail
            obtain ⟨q0, q1, q2, q3, -⟩ := Blk.four_ HZ7.out
            refine bodyPost_ret (v := .tuple #[.agg #[.int .i64 kd, .int .i64 x, .int .i64 y, .int .i64 tk], .bool false]) (by simp [results, Tryz.results116, go_sem, q0, q1, q2, q3]) rfl ⟨⟨⟨kd, x, y, tk⟩, false, rfl, by have h := HW.out; rw [HWB.out] at h; exact h⟩, HO7.out⟩
          case true =>
            rw [Bool.true_and] at HWB
            cases b4
            case false =>
              rw [Bool.not_false, Bool.true_or, Bool.true_and] at HWB
              cases okx
              · rw [Bool.false_and] at HWB
                go_wp2_with fail
                obtain ⟨q0, q1, q2, q3, -⟩ := Blk.four_ HZ7.out
                refine bodyPost_ret (v := .tuple #[.agg #[.int .i64 kd, .int .i64 x, .int .i64 y, .int .i64 tk], .bool false]) (by simp [results, Tryz.results116, go_sem, q0, q1, q2, q3]) rfl ⟨⟨⟨kd, x, y, tk⟩, false, rfl, by have h := HW.out; rw [HWB.out] at h; exact h⟩, HO7.out⟩
              · rw [Bool.true_and] at HWB
                go_wp2_with fail
                obtain ⟨q0, q1, q2, q3, -⟩ := Blk.four_ HZ7.out
                refine bodyPost_ret (v := .tuple #[.agg #[.int .i64 kd, .int .i64 x, .int .i64 y, .int .i64 tk], .bool oky]) (by simp [results, Tryz.results116, go_sem, q0, q1, q2, q3]) rfl ⟨⟨⟨kd, x, y, tk⟩, oky, rfl, by have h := HW.out; rw [HWB.out] at h; exact h⟩, HO7.out⟩
            case true =>
              rw [Bool.not_true, Bool.false_or] at HWB
              cases bt
              · rw [Bool.false_and] at HWB
                go_wp2_with fail
                obtain ⟨q0, q1, q2, q3, -⟩ := Blk.four_ HZ7.out
                refine bodyPost_ret (v := .tuple #[.agg #[.int .i64 kd, .int .i64 x, .int .i64 y, .int .i64 tk], .bool false]) (by simp [results, Tryz.results116, go_sem, q0, q1, q2, q3]) rfl ⟨⟨⟨kd, x, y, tk⟩, false, rfl, by have h := HW.out; rw [HWB.out] at h; exact h⟩, HO7.out⟩
              · rw [Bool.true_and] at HWB
                cases okx
                · rw [Bool.false_and] at HWB
                  go_wp2_with fail
                  obtain ⟨q0, q1, q2, q3, -⟩ := Blk.four_ HZ7.out
                  refine bodyPost_ret (v := .tuple #[.agg #[.int .i64 kd, .int .i64 x, .int .i64 y, .int .i64 tk], .bool false]) (by simp [results, Tryz.results116, go_sem, q0, q1, q2, q3]) rfl ⟨⟨⟨kd, x, y, tk⟩, false, rfl, by have h := HW.out; rw [HWB.out] at h; exact h⟩, HO7.out⟩
                · rw [Bool.true_and] at HWB
                  go_wp2_with fail
                  obtain ⟨q0, q1, q2, q3, -⟩ := Blk.four_ HZ7.out
                  refine bodyPost_ret (v := .tuple #[.agg #[.int .i64 kd, .int .i64 x, .int .i64 y, .int .i64 tk], .bool oky]) (by simp [results, Tryz.results116, go_sem, q0, q1, q2, q3]) rfl ⟨⟨⟨kd, x, y, tk⟩, oky, rfl, by have h := HW.out; rw [HWB.out] at h; exact h⟩, HO7.out⟩
end Go.Proofs.YtcdfeaodfmfdnaaGreatDoor
