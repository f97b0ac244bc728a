/- strconv.Atoi of anything; (*house.House).line: walked. -/
import Derived.Test.YtcdfeaodfmfdnaaGreatDoorOqOpPlain
import Derived.Test.YtcdfeaodfmfdnaaGreatDoorOqKit
import Derived.BigRegion
namespace Go.Proofs.YtcdfeaodfmfdnaaGreatDoor
open Go.RowKit

theorem RowsAt.only {S : Nat → Prop} {w w' : World} {g : Nat} {xs : List (List UInt8)} (h : RowsAt w g xs) (ho : Only S w w') (hn : ¬ S g) : RowsAt w' g xs := Blk.only h ho hn
theorem later_box {W w : World} {vs : Nat → Value} (h : Later W w) : Later W ((((w.setCell ⟨W.heap.size, 0, none⟩ (vs 0)).setCell ⟨W.heap.size, 1, none⟩ (vs 1)).setCell ⟨W.heap.size, 2, none⟩ (vs 2)).setCell ⟨W.heap.size, 3, none⟩ (vs 3)) :=
 (((Below.setCell h (Nat.le_refl _) _).setCell (Nat.le_refl _) _).setCell (Nat.le_refl _) _).setCell (Nat.le_refl _) _
theorem atoi_any (s : ByteArray) (hs : s.size ≤ 281474976710656) (w : World) (he : Env w) :
  Calls Tryz.prog 67 #[.string s] w fun e w' => ∃ n ev, e = .returned (.tuple #[.int .i64 n, ev]) ∧ ((ev = .nilIface ∧ Lib.atoiAll s.data.toList = .ok n) ∨ (∃ tp pp, ev = .iface tp pp ∧ ∀ v, Lib.atoiAll s.data.toList ≠ .ok v)) ∧ Only (fun _ => False) w w' := by
 rcases hA : Lib.atoiAll s.data.toList with v | _ | _
 ·
  refine (Tryz.strconv_Atoi_ok s (by omega) v hA w).mono ?_
  rintro e w1 ⟨rfl, hw1⟩
  refine ⟨v, _, rfl, .inl ⟨rfl, rfl⟩, ?_⟩
  rcases hw1 with rfl | ⟨t, rfl⟩
  ·
   exact Only.refl _ _
  ·
   exact only_of_b (Go.Joins.below_bytesWorld w.heap.size w _ t (Nat.le_refl _))
 ·
  obtain ⟨ev, h1, h2⟩ := he.es
  refine (Any.strconv_Atoi_syntax Tryz.laysC172 s hs hA ev w h1 h2).mono ?_
  rintro e w1 ⟨N, rfl, -, -, hb⟩
  exact ⟨_, _, rfl, .inr ⟨_, _, rfl, fun v hv => by cases hv⟩, only_of_b hb⟩
 ·
  obtain ⟨ev, h1, h2⟩ := he.er
  refine (Any.strconv_Atoi_range Tryz.laysC172 s hs hA ev w h1 h2).mono ?_
  rintro e w1 ⟨N, rfl, -, -, hb⟩
  exact ⟨_, _, rfl, .inr ⟨_, _, rfl, fun v hv => by cases hv⟩, only_of_b hb⟩
theorem itoa_ok (n : Int) (w : World) (h0 : -9223372036854775808 ≤ n) (h1 : n ≤ 9223372036854775807) (he : Env w) :
  Calls Tryz.prog 29 #[.int .i64 n] w fun e w' => e = .returned (.string (bytes (Lib.itoa n))) ∧ Later w w' :=
 (Tryz.strconv_Itoa n (by omega) h1 w he.tb).mono fun e w' ⟨h1, k, os, h2⟩ => ⟨h1, by rw [h2]; exact Lib.below_grow w.heap.size w (Nat.le_refl _) k os⟩
theorem bytes_ne {a b : List UInt8} (h : a ≠ b) : ¬ (bytes a).toList = (bytes b).toList := fun e => h (by
 rw [Go.ByteArray.toList_eq, Go.ByteArray.toList_eq] at e
 simpa [bytes] using e)
def LineOut (s : HoD) (t : ByteArray) (W : World) (e : Ending) (w' : World) : Prop :=
 ∃ (m : MsgD) (ok : Bool), e = .returned (.tuple #[.agg #[.int .i64 m.seat, .int .i64 m.ply, .string m.mv, .int .i64 m.at_], .bool ok]) ∧ (ok = true → LineP s t.data.toList m.mv m.at_ ∧ m = msgO s m.mv m.at_) ∧ (ok = false → ∀ mv a, ¬ LineP s t.data.toList mv a) ∧ Later W w'
def qB (s : HoD) (f0 f1 : List UInt8) (n0 n1 : Int) : Bool := decide ((Lib.atoiAll f0 = .ok n0 ∧ Lib.itoa n0 = f0 ∧ n0 = s.ply) ∧ (Lib.atoiAll f1 = .ok n1 ∧ Lib.itoa n1 = f1 ∧ s.now ≤ n1))
theorem line_says {s : HoD} {t f0 f1 f2 : List UInt8} {n0 n1 : Int} {e0 e1 : Value} {qb : Bool} (hp : splitL 32 t = [f0, f1, f2])
  (h0 : (e0 = .nilIface ∧ Lib.atoiAll f0 = .ok n0) ∨ (∃ tp pp, e0 = .iface tp pp ∧ ∀ v, Lib.atoiAll f0 ≠ .ok v)) (h1 : (e1 = .nilIface ∧ Lib.atoiAll f1 = .ok n1) ∨ (∃ tp pp, e1 = .iface tp pp ∧ ∀ v, Lib.atoiAll f1 ≠ .ok v)) (hq : qB s f0 f1 n0 n1 = qb) (hok : HoOk s) :
  (qb = true → LineP s t (bytes f2) n1 ∧ n0 = s.ply) ∧ (qb = false → ∀ mv a, ¬ LineP s t mv a) := by
 subst hq
 unfold qB
 refine ⟨fun h => ?_, fun h mv a hl => of_decide_eq_false h ?_⟩
 ·
  obtain ⟨⟨a0, b0, c0⟩, ⟨a1, b1, c1⟩⟩ := of_decide_eq_true h
  exact ⟨line_of hp (by rw [← c0]; exact b0) b1 c1 (Lib.atoiAll_bounds a1).2, c0⟩
 ·
  have e := hl.split hok.ply hok.now
  rw [hp] at e
  simp only [List.cons.injEq, and_true] at e
  obtain ⟨rfl, rfl, -⟩ := e
  have k0 := itoa_all hok.ply (by have := hok.of.rules.pl2; have := hok.plies; omega)
  have k1 := itoa_all (show 0 ≤ a from by have := hok.now; have := hl.2.2.1; omega) hl.2.2.2
  have j0 : n0 = s.ply := by
   rcases h0 with ⟨_, h⟩ | ⟨_, _, _, h⟩
   ·
    rw [k0] at h; injection h with h; exact h.symm
   ·
    exact absurd k0 (h _)
  have j1 : n1 = a := by
   rcases h1 with ⟨_, h⟩ | ⟨_, _, _, h⟩
   ·
    rw [k1] at h; injection h with h; exact h.symm
   ·
    exact absurd k1 (h _)
  rw [j0, j1]
  exact ⟨⟨k0, rfl, rfl⟩, ⟨k1, rfl, hl.2.2.1⟩⟩
set_option maxHeartbeats 8000000 in
set_option maxRecDepth 100000 in
theorem hline_any (B h : Nat) (s : HoD) (A : Option Addr) (cp : Nat) (ad v : Value) (l : List UInt8) (t : ByteArray) (W : World) (hb : HB W B h (hoC s A cp ad v) v l) (hok : HoOk s) (he : Env W) (ht : t.size < 4294967281) :
  Calls Tryz.prog 66 #[.pointer (some ⟨h, 0, none⟩), .string t] W (LineOut s t W) := by
 have hl0 : Later W (W.alloc (.cells #[.int .i64 0, .int .i64 0, .string ⟨#[]⟩, .int .i64 0] 62)) := Later.rfl.alloc _
 have HB0 := hide (hb.later hl0)
 have HZ0 := hide (Blk.new W 62 #[.int .i64 0, .int .i64 0, .string ⟨#[]⟩, .int .i64 0])
 have HE0 := hide (he.no (later_only hl0))
 have Hl0 := hide hl0
 have hhW : h < W.heap.size := hb.blk.lt
 clear hb he hl0
 go_enter Tryz.func66, Tryz.ntmps66
 go_upto_region 1 with (fail)
 obtain ⟨w0, hw0⟩ : ∃ w0, W.alloc (.cells #[.int .i64 0, .int .i64 0, .string ⟨#[]⟩, .int .i64 0] 62) = w0 := ⟨_, rfl⟩
 rw [hw0] at HB0 HZ0 HE0 Hl0 ⊢
 clear hw0
 have HC := hide (split_any 32 t w0 ht HE0.out.m)
 obtain ⟨P, hP⟩ : ∃ P, splitL 32 t.data.toList = P := ⟨_, rfl⟩
 rw [hP] at HC
 have Hparts0 := hide hP
 clear hP
 go_upto_region 2 with (go_at_call 33; refine HC.out.mono ?_; rintro e w1 ⟨n, hn, rfl, hr, ho, hs1⟩; have HR1 := hide hr; have Ho1 := hide ho; have Hn := hide hn; clear hr ho hn hs1)
 obtain ⟨g1, hg1⟩ : ∃ g1, w0.heap.size = g1 := ⟨_, rfl⟩
 have hg1W : W.heap.size < g1 := by have := HZ0.out.lt; omega
 rw [hg1] at HR1 ⊢
 have Hl1 := hide (show Later W w1 from Hl0.out.trans (Ho1.out.below_ (fun _ h => h.elim) (Nat.le_refl _)))
 have HB1 := hide (HB0.out.later (Ho1.out.below_ (fun _ h => h.elim) (Nat.le_refl _)))
 have HZ1 := hide (HZ0.out.only Ho1.out (fun h => h))
 have HE1 := hide (HE0.out.no Ho1.out)
 clear hg1 HB0 HZ0 HE0 Hl0 Ho1 HC
 by_cases h3 : n = 3
 ·
  subst h3
  have d3 : (((3 : Nat) : Int) != 3) = false := by decide
  obtain ⟨f0, f1, f2, rfl⟩ : ∃ f0 f1 f2, P = [f0, f1, f2] := by
   have hl := Hn.out
   match P, hl with
   | [a, b, c], _ => exact ⟨a, b, c, rfl⟩
  have Hparts := Hparts0
  have x0 := HR1.out.cell (i := 0) (by simp)
  have x1 := HR1.out.cell (i := 1) (by simp)
  simp only [List.getElem_cons_zero, List.getElem_cons_succ] at x0 x1
  obtain ⟨b0, hb0⟩ : ∃ b0, bytes f0 = b0 := ⟨_, rfl⟩
  obtain ⟨b1, hb1⟩ : ∃ b1, bytes f1 = b1 := ⟨_, rfl⟩
  have z0l : b0.size ≤ 281474976710656 := by
   have := splitL_mem (c := 32) (l := t.data.toList) (a := f0) (by rw [Hparts.out]; simp)
   rw [← hb0]
   have e : t.data.toList.length = t.size := by rw [Array.length_toList]; rfl
   show f0.toArray.size ≤ _
   simp only [List.size_toArray]
   omega
  have z1l : b1.size ≤ 281474976710656 := by
   have := splitL_mem (c := 32) (l := t.data.toList) (a := f1) (by rw [Hparts.out]; simp)
   rw [← hb1]
   have e : t.data.toList.length = t.size := by rw [Array.length_toList]; rfl
   show f1.toArray.size ≤ _
   simp only [List.size_toArray]
   omega
  rw [hb0] at x0
  rw [hb1] at x1
  have hd0 : b0.data.toList = f0 := by rw [← hb0]; simp [bytes]
  have hd1 : b1.data.toList = f1 := by rw [← hb1]; simp [bytes]
  have Hb0 := hide hb0.symm
  have Hb1 := hide hb1.symm
  have HA0 := hide (atoi_any b0 z0l w1 HE1.out)
  rw [hd0] at HA0
  have Hd1 := hide hd1
  clear hb0 hb1 hd0 hd1 Hparts0
  go_upto_region 5 with (go_at_call 67; refine HA0.out.mono ?_; rintro e w3 ⟨n0, ev0, rfl, h0, ho⟩; have H0 := hide h0; have Ho3 := hide ho; clear h0 ho)
  have hl3 : Later w1 w3 := Ho3.out.below_ (fun _ h => h.elim) (Nat.le_refl _)
  have HR3 := hide (HR1.out.only Ho3.out (fun h => h))
  have HB3 := hide (HB1.out.later hl3)
  have HZ3 := hide (Later.blk hl3 HZ1.out)
  have HE3 := hide (HE1.out.no Ho3.out)
  have Hl3 := hide (Hl1.out.trans hl3)
  clear hl3 Ho3 HR1 HB1 HZ1 HE1 Hl1 x0 x1 HA0 d3
  have x1 := HR3.out.cell (i := 1) (by simp)
  simp only [List.getElem_cons_zero, List.getElem_cons_succ] at x1
  rw [show bytes f1 = b1 from Hb1.out.symm] at x1
  have HA1 := hide (atoi_any b1 z1l w3 HE3.out)
  rw [Hd1.out] at HA1
  go_upto_region 6 with (go_at_call 67; refine HA1.out.mono ?_; rintro e w5 ⟨n1, ev1, rfl, h1, ho⟩; have H1 := hide h1; have Ho5 := hide ho; clear h1 ho)
  have hl5 : Later w3 w5 := Ho5.out.below_ (fun _ h => h.elim) (Nat.le_refl _)
  have HR5 := hide (HR3.out.only Ho5.out (fun h => h))
  have HB5 := hide (HB3.out.later hl5)
  have HZ5 := hide (Later.blk hl5 HZ3.out)
  have HE5 := hide (HE3.out.no Ho5.out)
  have Hl5 := hide (Hl3.out.trans hl5)
  clear hl5 Ho5 HR3 HB3 HZ3 HE3 Hl3 x1 HA1 Hd1
  have hn0 : (∀ tp pp, ev0 ≠ .iface tp pp) → -9223372036854775808 ≤ n0 ∧ n0 ≤ 9223372036854775807 := fun hh => by
   rcases H0.out with ⟨_, h⟩ | ⟨tp, pp, h, _⟩
   ·
    exact Lib.atoiAll_bounds h
   ·
    exact absurd h (hh tp pp)
  have Hi0 := hide (fun (hh : -9223372036854775808 ≤ n0 ∧ n0 ≤ 9223372036854775807) w (hw : Later w5 w) => itoa_ok n0 w hh.1 hh.2 (HE5.out.no (later_only hw)))
  have Hi1 := hide (fun (hh : -9223372036854775808 ≤ n1 ∧ n1 ≤ 9223372036854775807) w (hw : Later w5 w) => itoa_ok n1 w hh.1 hh.2 (HE5.out.no (later_only hw)))
  obtain ⟨z0, hz0⟩ : ∃ z0, bytes (Lib.itoa n0) = z0 := ⟨_, rfl⟩
  obtain ⟨z1, hz1⟩ : ∃ z1, bytes (Lib.itoa n1) = z1 := ⟨_, rfl⟩
  rw [hz0] at Hi0
  rw [hz1] at Hi1
  have Hz0 := hide hz0
  have Hz1 := hide hz1
  obtain ⟨qb, hqb⟩ : ∃ qb, qB s f0 f1 n0 n1 = qb := ⟨_, rfl⟩
  have Hqb := hide hqb
  have HS := hide (show ∀ w' : World, Later w5 w' → (w'.cell? ⟨g1, 0, none⟩ = some (.string b0) ∧ w'.cell? ⟨g1, 1, none⟩ = some (.string b1) ∧ w'.cell? ⟨h, 22, none⟩ = some (.int .i64 s.ply) ∧ w'.cell? ⟨h, 2, none⟩ = some (.int .i64 s.now)) from fun w' hw => by
   have hr := HR5.out.only (later_only hw) (fun h => h)
   have x0 := hr.cell (i := 0) (by simp)
   have x1 := hr.cell (i := 1) (by simp)
   simp only [List.getElem_cons_zero, List.getElem_cons_succ] at x0 x1
   rw [show bytes f0 = b0 from Hb0.out.symm] at x0
   rw [show bytes f1 = b1 from Hb1.out.symm] at x1
   obtain ⟨t0, _⟩ := (HB5.out.later hw).rest
   obtain ⟨_, _, c2⟩ := (HB5.out.later hw).clock
   exact ⟨x0, x1, t0, c2⟩)
  clear hz0 hz1 hqb hn0 z0l z1l HE5
  go_cut [11] from 32 to 70 (fun bv w' => bv = .bool qb ∧ Later w5 w')
  case first =>
   rcases H0.out with ⟨rfl, ha0⟩ | ⟨tp, pp, rfl, hno⟩
   ·
    have Hj0 := hide (Hi0.out (Lib.atoiAll_bounds ha0))
    rcases H1.out with ⟨rfl, ha1⟩ | ⟨tp, pp, rfl, hno⟩
    ·
     have Hj1 := hide (Hi1.out (Lib.atoiAll_bounds ha1))
     by_cases q0 : Lib.itoa n0 = f0
     ·
      have e0 : (z0.toList == b0.toList) = true := by rw [← Hz0.out, Hb0.out, q0]; simp
      by_cases q1 : Lib.itoa n1 = f1
      ·
       have e1 : (z1.toList == b1.toList) = true := by rw [← Hz1.out, Hb1.out, q1]; simp
       by_cases q2 : n0 = s.ply
       ·
        have e2 : (n0 == s.ply) = true := by rw [q2]; simp
        obtain ⟨b3, hb3⟩ : ∃ b3, decide (n1 ≥ s.now) = b3 := ⟨_, rfl⟩
        have HQ := hide (show qb = b3 from by rw [← Hqb.out, ← hb3]; exact decide_eq_decide.2 ⟨fun h => h.2.2.2, fun h => ⟨⟨ha0, q0, q2⟩, ⟨ha1, q1, h⟩⟩⟩)
        clear q0 q1 q2 ha0 ha1
        refine wp_region_held_drew (S := fun w' : World => (w'.cell? ⟨g1, 0, none⟩ = some (.string b0) ∧ w'.cell? ⟨g1, 1, none⟩ = some (.string b1) ∧ w'.cell? ⟨h, 22, none⟩ = some (.int .i64 s.ply) ∧ w'.cell? ⟨h, 2, none⟩ = some (.int .i64 s.now))) (by kernel_rfl) (HS.out _ Later.rfl.drew) (fun hHeld => ?_)
        refine tk 0 (some 32) (v := ?_) ?_ ?_; rotate_left 1; (intro w hSw; (try dsimp only at hSw); go_simp <;> with_reducible rfl); try simp only [Act.put, List.setIfInBounds_toArray, List.set_cons_zero, List.set_cons_succ]
        refine tk 1 (some 33) (v := ?_) ?_ ?_; rotate_left 1; (intro w hSw; (try dsimp only at hSw); go_simp <;> with_reducible rfl); try simp only [Act.put, List.setIfInBounds_toArray, List.set_cons_zero, List.set_cons_succ]
        refine tk 2 (some 34) (v := ?_) ?_ ?_; rotate_left 1; (intro w hSw; (try dsimp only at hSw); go_simp <;> with_reducible rfl); try simp only [Act.put, List.setIfInBounds_toArray, List.set_cons_zero, List.set_cons_succ]
        refine tk 3 (some 35) (v := ?_) ?_ ?_; rotate_left 1; (intro w hSw; (try dsimp only at hSw); go_simp <;> with_reducible rfl); try simp only [Act.put, List.setIfInBounds_toArray, List.set_cons_zero, List.set_cons_succ]
        refine tk 4 (some 36) (v := ?_) ?_ ?_; rotate_left 1; (intro w hSw; (try dsimp only at hSw); go_simp <;> with_reducible rfl); try simp only [Act.put, List.setIfInBounds_toArray, List.set_cons_zero, List.set_cons_succ]
        refine tk 5 (some 37) (v := ?_) ?_ ?_; rotate_left 1; (intro w hSw; (try dsimp only at hSw); go_simp <;> with_reducible rfl); try simp only [Act.put, List.setIfInBounds_toArray, List.set_cons_zero, List.set_cons_succ]
        refine tk 6 (some 38) (v := ?_) ?_ ?_; rotate_left 1; (intro w hSw; (try dsimp only at hSw); go_simp <;> with_reducible rfl); try simp only [Act.put, List.setIfInBounds_toArray, List.set_cons_zero, List.set_cons_succ]
        refine tk 7 (some 39) (v := ?_) ?_ ?_; rotate_left 1; (intro w hSw; (try dsimp only at hSw); go_simp <;> with_reducible rfl); try simp only [Act.put, List.setIfInBounds_toArray, List.set_cons_zero, List.set_cons_succ]
        refine tk 9 (some 41) (v := ?_) ?_ ?_; rotate_left 1; (intro w hSw; (try dsimp only at hSw); go_simp <;> with_reducible rfl); try simp only [Act.put, List.setIfInBounds_toArray, List.set_cons_zero, List.set_cons_succ]
        refine tk 10 (some 42) (v := ?_) ?_ ?_; rotate_left 1; (intro w hSw; (try dsimp only at hSw); go_simp <;> with_reducible rfl); try simp only [Act.put, List.setIfInBounds_toArray, List.set_cons_zero, List.set_cons_succ]
        refine tk 11 (some 43) (v := ?_) ?_ ?_; rotate_left 1; (intro w hSw; (try dsimp only at hSw); go_simp <;> with_reducible rfl); try simp only [Act.put, List.setIfInBounds_toArray, List.set_cons_zero, List.set_cons_succ]
        refine wpAnyH_ready (rs := [8]) (by kernel_rfl) (by simp) ?_
        refine AllReadyH.cons (o := ⟨some 40, _, _, _, _, _⟩) rfl (fun K hK => ?_) ?_
        ·
         clear hHeld
         go_simp
         go_at_call 29
         with_reducible refine (Hj0.out _ (by repeat (first | exact Later.rfl | refine Later.drew ?_ | refine Later.alloc ?_ _))).mono ?_
         rintro e wi ⟨rfl, hwi⟩
         have hwq : Later w5 wi := Later.trans (by repeat (first | exact Later.rfl | refine Later.drew ?_ | refine Later.alloc ?_ _)) hwi
         try go_wp2_with fail
         refine hK.out _ _ (by refine HS.out _ ?_; repeat (first | exact Later.rfl | exact hwr | exact hwq | refine Later.drew ?_ | refine Later.alloc ?_ _)) (fun hHeld => ?_)
         clear hK K
         try simp only [Act.put, List.setIfInBounds_toArray, List.set_cons_zero, List.set_cons_succ]
         refine tk 12 (some 44) (v := ?_) ?_ ?_; rotate_left 1; (intro w hSw; (try dsimp only at hSw); go_simp <;> with_reducible rfl); try simp only [Act.put, List.setIfInBounds_toArray, List.set_cons_zero, List.set_cons_succ]
         refine tk 13 (some 45) (v := ?_) ?_ ?_; rotate_left 1; (intro w hSw; (try dsimp only at hSw); go_simp <;> with_reducible rfl); try simp only [Act.put, List.setIfInBounds_toArray, List.set_cons_zero, List.set_cons_succ]
         refine tk 14 (some 46) (v := ?_) ?_ ?_; rotate_left 1; (intro w hSw; (try dsimp only at hSw); go_simp <;> with_reducible rfl); try simp only [Act.put, List.setIfInBounds_toArray, List.set_cons_zero, List.set_cons_succ]
         refine tk 15 (some 47) (v := ?_) ?_ ?_; rotate_left 1; (intro w hSw; (try dsimp only at hSw); go_simp <;> with_reducible rfl); try simp only [Act.put, List.setIfInBounds_toArray, List.set_cons_zero, List.set_cons_succ]
         refine tk 17 (some 49) (v := ?_) ?_ ?_; rotate_left 1; (intro w hSw; (try dsimp only at hSw); go_simp <;> with_reducible rfl); try simp only [Act.put, List.setIfInBounds_toArray, List.set_cons_zero, List.set_cons_succ]
         refine tk 18 (some 50) (v := ?_) ?_ ?_; rotate_left 1; (intro w hSw; (try dsimp only at hSw); go_simp <;> with_reducible rfl); try simp only [Act.put, List.setIfInBounds_toArray, List.set_cons_zero, List.set_cons_succ]
         refine tk 19 (some 51) (v := ?_) ?_ ?_; rotate_left 1; (intro w hSw; (try dsimp only at hSw); go_simp <;> with_reducible rfl); try simp only [Act.put, List.setIfInBounds_toArray, List.set_cons_zero, List.set_cons_succ]
         refine wpAnyH_ready (rs := [16]) (by kernel_rfl) (by simp) ?_
         refine AllReadyH.cons (o := ⟨some 48, _, _, _, _, _⟩) rfl (fun K hK => ?_) ?_
         ·
          clear hHeld
          go_simp
          go_at_call 29
          with_reducible refine (Hj1.out _ (by repeat (first | exact Later.rfl | exact hwq | refine Later.drew ?_ | refine Later.alloc ?_ _))).mono ?_
          rintro e wj ⟨rfl, hwj⟩
          have hwr : Later w5 wj := Later.trans (by repeat (first | exact Later.rfl | exact hwq | refine Later.drew ?_ | refine Later.alloc ?_ _)) hwj
          try go_wp2_with fail
          refine hK.out _ _ (by refine HS.out _ ?_; repeat (first | exact Later.rfl | exact hwr | exact hwq | refine Later.drew ?_ | refine Later.alloc ?_ _)) (fun hHeld => ?_)
          clear hK K
          try simp only [Act.put, List.setIfInBounds_toArray, List.set_cons_zero, List.set_cons_succ]
          refine tk 20 (some 52) (v := ?_) ?_ ?_; rotate_left 1; (intro w hSw; (try dsimp only at hSw); go_simp <;> with_reducible rfl); try simp only [Act.put, List.setIfInBounds_toArray, List.set_cons_zero, List.set_cons_succ]
          refine tk 21 (some 53) (v := ?_) ?_ ?_; rotate_left 1; (intro w hSw; (try dsimp only at hSw); go_simp <;> with_reducible rfl); try simp only [Act.put, List.setIfInBounds_toArray, List.set_cons_zero, List.set_cons_succ]
          refine tk 22 (some 54) (v := ?_) ?_ ?_; rotate_left 1; (intro w hSw; (try dsimp only at hSw); go_simp <;> with_reducible rfl); try simp only [Act.put, List.setIfInBounds_toArray, List.set_cons_zero, List.set_cons_succ]
          refine tk 23 (some 55) (v := ?_) ?_ ?_; rotate_left 1; (intro w hSw; (try dsimp only at hSw); go_simp <;> with_reducible rfl); try simp only [Act.put, List.setIfInBounds_toArray, List.set_cons_zero, List.set_cons_succ]
          refine tk 24 (some 56) (v := ?_) ?_ ?_; rotate_left 1; (intro w hSw; (try dsimp only at hSw); go_simp <;> with_reducible rfl); try simp only [Act.put, List.setIfInBounds_toArray, List.set_cons_zero, List.set_cons_succ]
          refine tk 25 (some 57) (v := ?_) ?_ ?_; rotate_left 1; (intro w hSw; (try dsimp only at hSw); go_simp <;> with_reducible rfl); try simp only [Act.put, List.setIfInBounds_toArray, List.set_cons_zero, List.set_cons_succ]
          refine tk 26 (some 58) (v := ?_) ?_ ?_; rotate_left 1; (intro w hSw; (try dsimp only at hSw); go_simp <;> with_reducible rfl); try simp only [Act.put, List.setIfInBounds_toArray, List.set_cons_zero, List.set_cons_succ]
          refine tk 27 (some 59) (v := ?_) ?_ ?_; rotate_left 1; (intro w hSw; (try dsimp only at hSw); go_simp <;> with_reducible rfl); try simp only [Act.put, List.setIfInBounds_toArray, List.set_cons_zero, List.set_cons_succ]
          refine tk 28 (some 60) (v := ?_) ?_ ?_; rotate_left 1; (intro w hSw; (try dsimp only at hSw); go_simp <;> with_reducible rfl); try simp only [Act.put, List.setIfInBounds_toArray, List.set_cons_zero, List.set_cons_succ]
          refine tk 29 (some 61) (v := ?_) ?_ ?_; rotate_left 1; (intro w hSw; (try dsimp only at hSw); go_simp <;> with_reducible rfl); try simp only [Act.put, List.setIfInBounds_toArray, List.set_cons_zero, List.set_cons_succ]
          refine tk 30 (some 62) (v := ?_) ?_ ?_; rotate_left 1; (intro w hSw; (try dsimp only at hSw); go_simp <;> with_reducible rfl); try simp only [Act.put, List.setIfInBounds_toArray, List.set_cons_zero, List.set_cons_succ]
          refine tk 31 (some 63) (v := ?_) ?_ ?_; rotate_left 1; (intro w hSw; (try dsimp only at hSw); go_simp <;> with_reducible rfl); try simp only [Act.put, List.setIfInBounds_toArray, List.set_cons_zero, List.set_cons_succ]
          refine tk 32 (some 64) (v := ?_) ?_ ?_; rotate_left 1; (intro w hSw; (try dsimp only at hSw); go_simp <;> with_reducible rfl); try simp only [Act.put, List.setIfInBounds_toArray, List.set_cons_zero, List.set_cons_succ]
          refine tk 33 (some 65) (v := ?_) ?_ ?_; rotate_left 1; (intro w hSw; (try dsimp only at hSw); go_simp <;> with_reducible rfl); try simp only [Act.put, List.setIfInBounds_toArray, List.set_cons_zero, List.set_cons_succ]
          refine tk 34 (some 66) (v := ?_) ?_ ?_; rotate_left 1; (intro w hSw; (try dsimp only at hSw); go_simp <;> with_reducible rfl); try simp only [Act.put, List.setIfInBounds_toArray, List.set_cons_zero, List.set_cons_succ]
          refine tk 35 (some 67) (v := ?_) ?_ ?_; rotate_left 1; (intro w hSw; (try dsimp only at hSw); go_simp <;> with_reducible rfl); try simp only [Act.put, List.setIfInBounds_toArray, List.set_cons_zero, List.set_cons_succ]
          refine tk 36 (some 68) (v := ?_) ?_ ?_; rotate_left 1; (intro w hSw; (try dsimp only at hSw); go_simp <;> with_reducible rfl); try simp only [Act.put, List.setIfInBounds_toArray, List.set_cons_zero, List.set_cons_succ]
          refine tk 37 (some 69) (v := ?_) ?_ ?_; rotate_left 1; (intro w hSw; (try dsimp only at hSw); go_simp <;> with_reducible rfl); try simp only [Act.put, List.setIfInBounds_toArray, List.set_cons_zero, List.set_cons_succ]
          refine tk 38 (some 70) (v := ?_) ?_ ?_; rotate_left 1; (intro w hSw; (try dsimp only at hSw); go_simp <;> with_reducible rfl); try simp only [Act.put, List.setIfInBounds_toArray, List.set_cons_zero, List.set_cons_succ]
          refine tk 39 (some 11) (v := ?_) ?_ ?_; rotate_left 1; (intro w hSw; (try dsimp only at hSw); go_simp <;> with_reducible rfl); try simp only [Act.put, List.setIfInBounds_toArray, List.set_cons_zero, List.set_cons_succ]
          refine wpAnyH_done (by kernel_rfl) ?_ _
          cases b3
          ·
           go_wp2_with fail
           go_meet
           case rel => exact ⟨by rw [HQ.out], (by repeat (first | exact Later.rfl | exact hwr | exact hwq | refine Later.drew ?_ | refine Later.alloc ?_ _))⟩
          ·
           go_wp2_with fail
           go_meet
           case rel => exact ⟨by rw [HQ.out], (by repeat (first | exact Later.rfl | exact hwr | exact hwq | refine Later.drew ?_ | refine Later.alloc ?_ _))⟩
         exact AllReadyH.nil
        exact AllReadyH.nil
       ·
        have e2 : (n0 == s.ply) = false := by simpa using q2
        have HQ := hide (show qb = false from by rw [← Hqb.out]; exact decide_eq_false (fun hh => q2 hh.1.2.2))
        clear q0 q1 q2 ha0 ha1
        refine wp_region_held_drew (S := fun w' : World => (w'.cell? ⟨g1, 0, none⟩ = some (.string b0) ∧ w'.cell? ⟨g1, 1, none⟩ = some (.string b1) ∧ w'.cell? ⟨h, 22, none⟩ = some (.int .i64 s.ply) ∧ w'.cell? ⟨h, 2, none⟩ = some (.int .i64 s.now))) (by kernel_rfl) (HS.out _ Later.rfl.drew) (fun hHeld => ?_)
        refine tk 0 (some 32) (v := ?_) ?_ ?_; rotate_left 1; (intro w hSw; (try dsimp only at hSw); go_simp <;> with_reducible rfl); try simp only [Act.put, List.setIfInBounds_toArray, List.set_cons_zero, List.set_cons_succ]
        refine tk 1 (some 33) (v := ?_) ?_ ?_; rotate_left 1; (intro w hSw; (try dsimp only at hSw); go_simp <;> with_reducible rfl); try simp only [Act.put, List.setIfInBounds_toArray, List.set_cons_zero, List.set_cons_succ]
        refine tk 2 (some 34) (v := ?_) ?_ ?_; rotate_left 1; (intro w hSw; (try dsimp only at hSw); go_simp <;> with_reducible rfl); try simp only [Act.put, List.setIfInBounds_toArray, List.set_cons_zero, List.set_cons_succ]
        refine tk 3 (some 35) (v := ?_) ?_ ?_; rotate_left 1; (intro w hSw; (try dsimp only at hSw); go_simp <;> with_reducible rfl); try simp only [Act.put, List.setIfInBounds_toArray, List.set_cons_zero, List.set_cons_succ]
        refine tk 4 (some 36) (v := ?_) ?_ ?_; rotate_left 1; (intro w hSw; (try dsimp only at hSw); go_simp <;> with_reducible rfl); try simp only [Act.put, List.setIfInBounds_toArray, List.set_cons_zero, List.set_cons_succ]
        refine tk 5 (some 37) (v := ?_) ?_ ?_; rotate_left 1; (intro w hSw; (try dsimp only at hSw); go_simp <;> with_reducible rfl); try simp only [Act.put, List.setIfInBounds_toArray, List.set_cons_zero, List.set_cons_succ]
        refine tk 6 (some 38) (v := ?_) ?_ ?_; rotate_left 1; (intro w hSw; (try dsimp only at hSw); go_simp <;> with_reducible rfl); try simp only [Act.put, List.setIfInBounds_toArray, List.set_cons_zero, List.set_cons_succ]
        refine tk 7 (some 39) (v := ?_) ?_ ?_; rotate_left 1; (intro w hSw; (try dsimp only at hSw); go_simp <;> with_reducible rfl); try simp only [Act.put, List.setIfInBounds_toArray, List.set_cons_zero, List.set_cons_succ]
        refine tk 9 (some 41) (v := ?_) ?_ ?_; rotate_left 1; (intro w hSw; (try dsimp only at hSw); go_simp <;> with_reducible rfl); try simp only [Act.put, List.setIfInBounds_toArray, List.set_cons_zero, List.set_cons_succ]
        refine tk 10 (some 42) (v := ?_) ?_ ?_; rotate_left 1; (intro w hSw; (try dsimp only at hSw); go_simp <;> with_reducible rfl); try simp only [Act.put, List.setIfInBounds_toArray, List.set_cons_zero, List.set_cons_succ]
        refine tk 11 (some 43) (v := ?_) ?_ ?_; rotate_left 1; (intro w hSw; (try dsimp only at hSw); go_simp <;> with_reducible rfl); try simp only [Act.put, List.setIfInBounds_toArray, List.set_cons_zero, List.set_cons_succ]
        refine wpAnyH_ready (rs := [8]) (by kernel_rfl) (by simp) ?_
        refine AllReadyH.cons (o := ⟨some 40, _, _, _, _, _⟩) rfl (fun K hK => ?_) ?_
        ·
         clear hHeld
         go_simp
         go_at_call 29
         with_reducible refine (Hj0.out _ (by repeat (first | exact Later.rfl | refine Later.drew ?_ | refine Later.alloc ?_ _))).mono ?_
         rintro e wi ⟨rfl, hwi⟩
         have hwq : Later w5 wi := Later.trans (by repeat (first | exact Later.rfl | refine Later.drew ?_ | refine Later.alloc ?_ _)) hwi
         try go_wp2_with fail
         refine hK.out _ _ (by refine HS.out _ ?_; repeat (first | exact Later.rfl | exact hwr | exact hwq | refine Later.drew ?_ | refine Later.alloc ?_ _)) (fun hHeld => ?_)
         clear hK K
         try simp only [Act.put, List.setIfInBounds_toArray, List.set_cons_zero, List.set_cons_succ]
         refine tk 12 (some 44) (v := ?_) ?_ ?_; rotate_left 1; (intro w hSw; (try dsimp only at hSw); go_simp <;> with_reducible rfl); try simp only [Act.put, List.setIfInBounds_toArray, List.set_cons_zero, List.set_cons_succ]
         refine tk 13 (some 45) (v := ?_) ?_ ?_; rotate_left 1; (intro w hSw; (try dsimp only at hSw); go_simp <;> with_reducible rfl); try simp only [Act.put, List.setIfInBounds_toArray, List.set_cons_zero, List.set_cons_succ]
         refine tk 14 (some 46) (v := ?_) ?_ ?_; rotate_left 1; (intro w hSw; (try dsimp only at hSw); go_simp <;> with_reducible rfl); try simp only [Act.put, List.setIfInBounds_toArray, List.set_cons_zero, List.set_cons_succ]
         refine tk 15 (some 47) (v := ?_) ?_ ?_; rotate_left 1; (intro w hSw; (try dsimp only at hSw); go_simp <;> with_reducible rfl); try simp only [Act.put, List.setIfInBounds_toArray, List.set_cons_zero, List.set_cons_succ]
         refine tk 17 (some 49) (v := ?_) ?_ ?_; rotate_left 1; (intro w hSw; (try dsimp only at hSw); go_simp <;> with_reducible rfl); try simp only [Act.put, List.setIfInBounds_toArray, List.set_cons_zero, List.set_cons_succ]
         refine tk 18 (some 50) (v := ?_) ?_ ?_; rotate_left 1; (intro w hSw; (try dsimp only at hSw); go_simp <;> with_reducible rfl); try simp only [Act.put, List.setIfInBounds_toArray, List.set_cons_zero, List.set_cons_succ]
         refine tk 19 (some 51) (v := ?_) ?_ ?_; rotate_left 1; (intro w hSw; (try dsimp only at hSw); go_simp <;> with_reducible rfl); try simp only [Act.put, List.setIfInBounds_toArray, List.set_cons_zero, List.set_cons_succ]
         refine wpAnyH_ready (rs := [16]) (by kernel_rfl) (by simp) ?_
         refine AllReadyH.cons (o := ⟨some 48, _, _, _, _, _⟩) rfl (fun K hK => ?_) ?_
         ·
          clear hHeld
          go_simp
          go_at_call 29
          with_reducible refine (Hj1.out _ (by repeat (first | exact Later.rfl | exact hwq | refine Later.drew ?_ | refine Later.alloc ?_ _))).mono ?_
          rintro e wj ⟨rfl, hwj⟩
          have hwr : Later w5 wj := Later.trans (by repeat (first | exact Later.rfl | exact hwq | refine Later.drew ?_ | refine Later.alloc ?_ _)) hwj
          try go_wp2_with fail
          refine hK.out _ _ (by refine HS.out _ ?_; repeat (first | exact Later.rfl | exact hwr | exact hwq | refine Later.drew ?_ | refine Later.alloc ?_ _)) (fun hHeld => ?_)
          clear hK K
          try simp only [Act.put, List.setIfInBounds_toArray, List.set_cons_zero, List.set_cons_succ]
          refine tk 20 (some 52) (v := ?_) ?_ ?_; rotate_left 1; (intro w hSw; (try dsimp only at hSw); go_simp <;> with_reducible rfl); try simp only [Act.put, List.setIfInBounds_toArray, List.set_cons_zero, List.set_cons_succ]
          refine tk 21 (some 53) (v := ?_) ?_ ?_; rotate_left 1; (intro w hSw; (try dsimp only at hSw); go_simp <;> with_reducible rfl); try simp only [Act.put, List.setIfInBounds_toArray, List.set_cons_zero, List.set_cons_succ]
          refine tk 22 (some 54) (v := ?_) ?_ ?_; rotate_left 1; (intro w hSw; (try dsimp only at hSw); go_simp <;> with_reducible rfl); try simp only [Act.put, List.setIfInBounds_toArray, List.set_cons_zero, List.set_cons_succ]
          refine tk 23 (some 55) (v := ?_) ?_ ?_; rotate_left 1; (intro w hSw; (try dsimp only at hSw); go_simp <;> with_reducible rfl); try simp only [Act.put, List.setIfInBounds_toArray, List.set_cons_zero, List.set_cons_succ]
          refine tk 24 (some 56) (v := ?_) ?_ ?_; rotate_left 1; (intro w hSw; (try dsimp only at hSw); go_simp <;> with_reducible rfl); try simp only [Act.put, List.setIfInBounds_toArray, List.set_cons_zero, List.set_cons_succ]
          refine tk 25 (some 57) (v := ?_) ?_ ?_; rotate_left 1; (intro w hSw; (try dsimp only at hSw); go_simp <;> with_reducible rfl); try simp only [Act.put, List.setIfInBounds_toArray, List.set_cons_zero, List.set_cons_succ]
          refine tk 26 (some 58) (v := ?_) ?_ ?_; rotate_left 1; (intro w hSw; (try dsimp only at hSw); go_simp <;> with_reducible rfl); try simp only [Act.put, List.setIfInBounds_toArray, List.set_cons_zero, List.set_cons_succ]
          refine tk 27 (some 59) (v := ?_) ?_ ?_; rotate_left 1; (intro w hSw; (try dsimp only at hSw); go_simp <;> with_reducible rfl); try simp only [Act.put, List.setIfInBounds_toArray, List.set_cons_zero, List.set_cons_succ]
          refine tk 28 (some 60) (v := ?_) ?_ ?_; rotate_left 1; (intro w hSw; (try dsimp only at hSw); go_simp <;> with_reducible rfl); try simp only [Act.put, List.setIfInBounds_toArray, List.set_cons_zero, List.set_cons_succ]
          refine tk 29 (some 61) (v := ?_) ?_ ?_; rotate_left 1; (intro w hSw; (try dsimp only at hSw); go_simp <;> with_reducible rfl); try simp only [Act.put, List.setIfInBounds_toArray, List.set_cons_zero, List.set_cons_succ]
          refine tk 30 (some 62) (v := ?_) ?_ ?_; rotate_left 1; (intro w hSw; (try dsimp only at hSw); go_simp <;> with_reducible rfl); try simp only [Act.put, List.setIfInBounds_toArray, List.set_cons_zero, List.set_cons_succ]
          refine tkn 31 (some 63) ?_
          try simp only [Act.put, List.setIfInBounds_toArray, List.set_cons_zero, List.set_cons_succ]
          refine tkn 32 (some 64) ?_
          try simp only [Act.put, List.setIfInBounds_toArray, List.set_cons_zero, List.set_cons_succ]
          refine tkn 33 (some 65) ?_
          try simp only [Act.put, List.setIfInBounds_toArray, List.set_cons_zero, List.set_cons_succ]
          refine tkn 34 (some 66) ?_
          try simp only [Act.put, List.setIfInBounds_toArray, List.set_cons_zero, List.set_cons_succ]
          refine tkn 35 (some 67) ?_
          try simp only [Act.put, List.setIfInBounds_toArray, List.set_cons_zero, List.set_cons_succ]
          refine tkn 36 (some 68) ?_
          try simp only [Act.put, List.setIfInBounds_toArray, List.set_cons_zero, List.set_cons_succ]
          refine tkn 37 (some 69) ?_
          try simp only [Act.put, List.setIfInBounds_toArray, List.set_cons_zero, List.set_cons_succ]
          refine tk 38 (some 70) (v := ?_) ?_ ?_; rotate_left 1; (intro w hSw; (try dsimp only at hSw); go_simp <;> with_reducible rfl); try simp only [Act.put, List.setIfInBounds_toArray, List.set_cons_zero, List.set_cons_succ]
          refine tk 39 (some 11) (v := ?_) ?_ ?_; rotate_left 1; (intro w hSw; (try dsimp only at hSw); go_simp <;> with_reducible rfl); try simp only [Act.put, List.setIfInBounds_toArray, List.set_cons_zero, List.set_cons_succ]
          refine wpAnyH_done (by kernel_rfl) ?_ _
          go_wp2_with fail
          go_meet
          case rel => exact ⟨by rw [HQ.out], (by repeat (first | exact Later.rfl | exact hwr | exact hwq | refine Later.drew ?_ | refine Later.alloc ?_ _))⟩
         exact AllReadyH.nil
        exact AllReadyH.nil
      ·
       have e1 : (z1.toList == b1.toList) = false := by rw [← Hz1.out, Hb1.out]; simpa [bytes] using bytes_ne q1
       have HQ := hide (show qb = false from by rw [← Hqb.out]; exact decide_eq_false (fun hh => q1 hh.2.2.1))
       clear q0 q1 ha0 ha1
       refine wp_region_held_drew (S := fun w' : World => (w'.cell? ⟨g1, 0, none⟩ = some (.string b0) ∧ w'.cell? ⟨g1, 1, none⟩ = some (.string b1) ∧ w'.cell? ⟨h, 22, none⟩ = some (.int .i64 s.ply) ∧ w'.cell? ⟨h, 2, none⟩ = some (.int .i64 s.now))) (by kernel_rfl) (HS.out _ Later.rfl.drew) (fun hHeld => ?_)
       refine tk 0 (some 32) (v := ?_) ?_ ?_; rotate_left 1; (intro w hSw; (try dsimp only at hSw); go_simp <;> with_reducible rfl); try simp only [Act.put, List.setIfInBounds_toArray, List.set_cons_zero, List.set_cons_succ]
       refine tk 1 (some 33) (v := ?_) ?_ ?_; rotate_left 1; (intro w hSw; (try dsimp only at hSw); go_simp <;> with_reducible rfl); try simp only [Act.put, List.setIfInBounds_toArray, List.set_cons_zero, List.set_cons_succ]
       refine tk 2 (some 34) (v := ?_) ?_ ?_; rotate_left 1; (intro w hSw; (try dsimp only at hSw); go_simp <;> with_reducible rfl); try simp only [Act.put, List.setIfInBounds_toArray, List.set_cons_zero, List.set_cons_succ]
       refine tk 3 (some 35) (v := ?_) ?_ ?_; rotate_left 1; (intro w hSw; (try dsimp only at hSw); go_simp <;> with_reducible rfl); try simp only [Act.put, List.setIfInBounds_toArray, List.set_cons_zero, List.set_cons_succ]
       refine tk 4 (some 36) (v := ?_) ?_ ?_; rotate_left 1; (intro w hSw; (try dsimp only at hSw); go_simp <;> with_reducible rfl); try simp only [Act.put, List.setIfInBounds_toArray, List.set_cons_zero, List.set_cons_succ]
       refine tk 5 (some 37) (v := ?_) ?_ ?_; rotate_left 1; (intro w hSw; (try dsimp only at hSw); go_simp <;> with_reducible rfl); try simp only [Act.put, List.setIfInBounds_toArray, List.set_cons_zero, List.set_cons_succ]
       refine tk 6 (some 38) (v := ?_) ?_ ?_; rotate_left 1; (intro w hSw; (try dsimp only at hSw); go_simp <;> with_reducible rfl); try simp only [Act.put, List.setIfInBounds_toArray, List.set_cons_zero, List.set_cons_succ]
       refine tk 7 (some 39) (v := ?_) ?_ ?_; rotate_left 1; (intro w hSw; (try dsimp only at hSw); go_simp <;> with_reducible rfl); try simp only [Act.put, List.setIfInBounds_toArray, List.set_cons_zero, List.set_cons_succ]
       refine tk 9 (some 41) (v := ?_) ?_ ?_; rotate_left 1; (intro w hSw; (try dsimp only at hSw); go_simp <;> with_reducible rfl); try simp only [Act.put, List.setIfInBounds_toArray, List.set_cons_zero, List.set_cons_succ]
       refine tk 10 (some 42) (v := ?_) ?_ ?_; rotate_left 1; (intro w hSw; (try dsimp only at hSw); go_simp <;> with_reducible rfl); try simp only [Act.put, List.setIfInBounds_toArray, List.set_cons_zero, List.set_cons_succ]
       refine tk 11 (some 43) (v := ?_) ?_ ?_; rotate_left 1; (intro w hSw; (try dsimp only at hSw); go_simp <;> with_reducible rfl); try simp only [Act.put, List.setIfInBounds_toArray, List.set_cons_zero, List.set_cons_succ]
       refine wpAnyH_ready (rs := [8]) (by kernel_rfl) (by simp) ?_
       refine AllReadyH.cons (o := ⟨some 40, _, _, _, _, _⟩) rfl (fun K hK => ?_) ?_
       ·
        clear hHeld
        go_simp
        go_at_call 29
        with_reducible refine (Hj0.out _ (by repeat (first | exact Later.rfl | refine Later.drew ?_ | refine Later.alloc ?_ _))).mono ?_
        rintro e wi ⟨rfl, hwi⟩
        have hwq : Later w5 wi := Later.trans (by repeat (first | exact Later.rfl | refine Later.drew ?_ | refine Later.alloc ?_ _)) hwi
        try go_wp2_with fail
        refine hK.out _ _ (by refine HS.out _ ?_; repeat (first | exact Later.rfl | exact hwr | exact hwq | refine Later.drew ?_ | refine Later.alloc ?_ _)) (fun hHeld => ?_)
        clear hK K
        try simp only [Act.put, List.setIfInBounds_toArray, List.set_cons_zero, List.set_cons_succ]
        refine tk 12 (some 44) (v := ?_) ?_ ?_; rotate_left 1; (intro w hSw; (try dsimp only at hSw); go_simp <;> with_reducible rfl); try simp only [Act.put, List.setIfInBounds_toArray, List.set_cons_zero, List.set_cons_succ]
        refine tk 13 (some 45) (v := ?_) ?_ ?_; rotate_left 1; (intro w hSw; (try dsimp only at hSw); go_simp <;> with_reducible rfl); try simp only [Act.put, List.setIfInBounds_toArray, List.set_cons_zero, List.set_cons_succ]
        refine tk 14 (some 46) (v := ?_) ?_ ?_; rotate_left 1; (intro w hSw; (try dsimp only at hSw); go_simp <;> with_reducible rfl); try simp only [Act.put, List.setIfInBounds_toArray, List.set_cons_zero, List.set_cons_succ]
        refine tk 15 (some 47) (v := ?_) ?_ ?_; rotate_left 1; (intro w hSw; (try dsimp only at hSw); go_simp <;> with_reducible rfl); try simp only [Act.put, List.setIfInBounds_toArray, List.set_cons_zero, List.set_cons_succ]
        refine tk 17 (some 49) (v := ?_) ?_ ?_; rotate_left 1; (intro w hSw; (try dsimp only at hSw); go_simp <;> with_reducible rfl); try simp only [Act.put, List.setIfInBounds_toArray, List.set_cons_zero, List.set_cons_succ]
        refine tk 18 (some 50) (v := ?_) ?_ ?_; rotate_left 1; (intro w hSw; (try dsimp only at hSw); go_simp <;> with_reducible rfl); try simp only [Act.put, List.setIfInBounds_toArray, List.set_cons_zero, List.set_cons_succ]
        refine tk 19 (some 51) (v := ?_) ?_ ?_; rotate_left 1; (intro w hSw; (try dsimp only at hSw); go_simp <;> with_reducible rfl); try simp only [Act.put, List.setIfInBounds_toArray, List.set_cons_zero, List.set_cons_succ]
        refine wpAnyH_ready (rs := [16]) (by kernel_rfl) (by simp) ?_
        refine AllReadyH.cons (o := ⟨some 48, _, _, _, _, _⟩) rfl (fun K hK => ?_) ?_
        ·
         clear hHeld
         go_simp
         go_at_call 29
         with_reducible refine (Hj1.out _ (by repeat (first | exact Later.rfl | exact hwq | refine Later.drew ?_ | refine Later.alloc ?_ _))).mono ?_
         rintro e wj ⟨rfl, hwj⟩
         have hwr : Later w5 wj := Later.trans (by repeat (first | exact Later.rfl | exact hwq | refine Later.drew ?_ | refine Later.alloc ?_ _)) hwj
         try go_wp2_with fail
         refine hK.out _ _ (by refine HS.out _ ?_; repeat (first | exact Later.rfl | exact hwr | exact hwq | refine Later.drew ?_ | refine Later.alloc ?_ _)) (fun hHeld => ?_)
         clear hK K
         try simp only [Act.put, List.setIfInBounds_toArray, List.set_cons_zero, List.set_cons_succ]
         refine tk 20 (some 52) (v := ?_) ?_ ?_; rotate_left 1; (intro w hSw; (try dsimp only at hSw); go_simp <;> with_reducible rfl); try simp only [Act.put, List.setIfInBounds_toArray, List.set_cons_zero, List.set_cons_succ]
         refine tk 21 (some 53) (v := ?_) ?_ ?_; rotate_left 1; (intro w hSw; (try dsimp only at hSw); go_simp <;> with_reducible rfl); try simp only [Act.put, List.setIfInBounds_toArray, List.set_cons_zero, List.set_cons_succ]
         refine tk 22 (some 54) (v := ?_) ?_ ?_; rotate_left 1; (intro w hSw; (try dsimp only at hSw); go_simp <;> with_reducible rfl); try simp only [Act.put, List.setIfInBounds_toArray, List.set_cons_zero, List.set_cons_succ]
         refine tkn 23 (some 55) ?_
         try simp only [Act.put, List.setIfInBounds_toArray, List.set_cons_zero, List.set_cons_succ]
         refine tkn 24 (some 56) ?_
         try simp only [Act.put, List.setIfInBounds_toArray, List.set_cons_zero, List.set_cons_succ]
         refine tkn 25 (some 57) ?_
         try simp only [Act.put, List.setIfInBounds_toArray, List.set_cons_zero, List.set_cons_succ]
         refine tkn 26 (some 58) ?_
         try simp only [Act.put, List.setIfInBounds_toArray, List.set_cons_zero, List.set_cons_succ]
         refine tkn 27 (some 59) ?_
         try simp only [Act.put, List.setIfInBounds_toArray, List.set_cons_zero, List.set_cons_succ]
         refine tkn 28 (some 60) ?_
         try simp only [Act.put, List.setIfInBounds_toArray, List.set_cons_zero, List.set_cons_succ]
         refine tk 29 (some 61) (v := ?_) ?_ ?_; rotate_left 1; (intro w hSw; (try dsimp only at hSw); go_simp <;> with_reducible rfl); try simp only [Act.put, List.setIfInBounds_toArray, List.set_cons_zero, List.set_cons_succ]
         refine tk 30 (some 62) (v := ?_) ?_ ?_; rotate_left 1; (intro w hSw; (try dsimp only at hSw); go_simp <;> with_reducible rfl); try simp only [Act.put, List.setIfInBounds_toArray, List.set_cons_zero, List.set_cons_succ]
         refine tkn 31 (some 63) ?_
         try simp only [Act.put, List.setIfInBounds_toArray, List.set_cons_zero, List.set_cons_succ]
         refine tkn 32 (some 64) ?_
         try simp only [Act.put, List.setIfInBounds_toArray, List.set_cons_zero, List.set_cons_succ]
         refine tkn 33 (some 65) ?_
         try simp only [Act.put, List.setIfInBounds_toArray, List.set_cons_zero, List.set_cons_succ]
         refine tkn 34 (some 66) ?_
         try simp only [Act.put, List.setIfInBounds_toArray, List.set_cons_zero, List.set_cons_succ]
         refine tkn 35 (some 67) ?_
         try simp only [Act.put, List.setIfInBounds_toArray, List.set_cons_zero, List.set_cons_succ]
         refine tkn 36 (some 68) ?_
         try simp only [Act.put, List.setIfInBounds_toArray, List.set_cons_zero, List.set_cons_succ]
         refine tkn 37 (some 69) ?_
         try simp only [Act.put, List.setIfInBounds_toArray, List.set_cons_zero, List.set_cons_succ]
         refine tk 38 (some 70) (v := ?_) ?_ ?_; rotate_left 1; (intro w hSw; (try dsimp only at hSw); go_simp <;> with_reducible rfl); try simp only [Act.put, List.setIfInBounds_toArray, List.set_cons_zero, List.set_cons_succ]
         refine tk 39 (some 11) (v := ?_) ?_ ?_; rotate_left 1; (intro w hSw; (try dsimp only at hSw); go_simp <;> with_reducible rfl); try simp only [Act.put, List.setIfInBounds_toArray, List.set_cons_zero, List.set_cons_succ]
         refine wpAnyH_done (by kernel_rfl) ?_ _
         go_wp2_with fail
         go_meet
         case rel => exact ⟨by rw [HQ.out], (by repeat (first | exact Later.rfl | exact hwr | exact hwq | refine Later.drew ?_ | refine Later.alloc ?_ _))⟩
        exact AllReadyH.nil
       exact AllReadyH.nil
     ·
      have e0 : (z0.toList == b0.toList) = false := by rw [← Hz0.out, Hb0.out]; simpa [bytes] using bytes_ne q0
      have HQ := hide (show qb = false from by rw [← Hqb.out]; exact decide_eq_false (fun hh => q0 hh.1.2.1))
      clear q0 ha0 ha1
      refine wp_region_held_drew (S := fun w' : World => (w'.cell? ⟨g1, 0, none⟩ = some (.string b0) ∧ w'.cell? ⟨g1, 1, none⟩ = some (.string b1) ∧ w'.cell? ⟨h, 22, none⟩ = some (.int .i64 s.ply) ∧ w'.cell? ⟨h, 2, none⟩ = some (.int .i64 s.now))) (by kernel_rfl) (HS.out _ Later.rfl.drew) (fun hHeld => ?_)
      refine tk 0 (some 32) (v := ?_) ?_ ?_; rotate_left 1; (intro w hSw; (try dsimp only at hSw); go_simp <;> with_reducible rfl); try simp only [Act.put, List.setIfInBounds_toArray, List.set_cons_zero, List.set_cons_succ]
      refine tk 1 (some 33) (v := ?_) ?_ ?_; rotate_left 1; (intro w hSw; (try dsimp only at hSw); go_simp <;> with_reducible rfl); try simp only [Act.put, List.setIfInBounds_toArray, List.set_cons_zero, List.set_cons_succ]
      refine tk 2 (some 34) (v := ?_) ?_ ?_; rotate_left 1; (intro w hSw; (try dsimp only at hSw); go_simp <;> with_reducible rfl); try simp only [Act.put, List.setIfInBounds_toArray, List.set_cons_zero, List.set_cons_succ]
      refine tk 3 (some 35) (v := ?_) ?_ ?_; rotate_left 1; (intro w hSw; (try dsimp only at hSw); go_simp <;> with_reducible rfl); try simp only [Act.put, List.setIfInBounds_toArray, List.set_cons_zero, List.set_cons_succ]
      refine tk 4 (some 36) (v := ?_) ?_ ?_; rotate_left 1; (intro w hSw; (try dsimp only at hSw); go_simp <;> with_reducible rfl); try simp only [Act.put, List.setIfInBounds_toArray, List.set_cons_zero, List.set_cons_succ]
      refine tk 5 (some 37) (v := ?_) ?_ ?_; rotate_left 1; (intro w hSw; (try dsimp only at hSw); go_simp <;> with_reducible rfl); try simp only [Act.put, List.setIfInBounds_toArray, List.set_cons_zero, List.set_cons_succ]
      refine tk 6 (some 38) (v := ?_) ?_ ?_; rotate_left 1; (intro w hSw; (try dsimp only at hSw); go_simp <;> with_reducible rfl); try simp only [Act.put, List.setIfInBounds_toArray, List.set_cons_zero, List.set_cons_succ]
      refine tk 7 (some 39) (v := ?_) ?_ ?_; rotate_left 1; (intro w hSw; (try dsimp only at hSw); go_simp <;> with_reducible rfl); try simp only [Act.put, List.setIfInBounds_toArray, List.set_cons_zero, List.set_cons_succ]
      refine tk 9 (some 41) (v := ?_) ?_ ?_; rotate_left 1; (intro w hSw; (try dsimp only at hSw); go_simp <;> with_reducible rfl); try simp only [Act.put, List.setIfInBounds_toArray, List.set_cons_zero, List.set_cons_succ]
      refine tk 10 (some 42) (v := ?_) ?_ ?_; rotate_left 1; (intro w hSw; (try dsimp only at hSw); go_simp <;> with_reducible rfl); try simp only [Act.put, List.setIfInBounds_toArray, List.set_cons_zero, List.set_cons_succ]
      refine tk 11 (some 43) (v := ?_) ?_ ?_; rotate_left 1; (intro w hSw; (try dsimp only at hSw); go_simp <;> with_reducible rfl); try simp only [Act.put, List.setIfInBounds_toArray, List.set_cons_zero, List.set_cons_succ]
      refine wpAnyH_ready (rs := [8]) (by kernel_rfl) (by simp) ?_
      refine AllReadyH.cons (o := ⟨some 40, _, _, _, _, _⟩) rfl (fun K hK => ?_) ?_
      ·
       clear hHeld
       go_simp
       go_at_call 29
       with_reducible refine (Hj0.out _ (by repeat (first | exact Later.rfl | refine Later.drew ?_ | refine Later.alloc ?_ _))).mono ?_
       rintro e wi ⟨rfl, hwi⟩
       have hwq : Later w5 wi := Later.trans (by repeat (first | exact Later.rfl | refine Later.drew ?_ | refine Later.alloc ?_ _)) hwi
       try go_wp2_with fail
       refine hK.out _ _ (by refine HS.out _ ?_; repeat (first | exact Later.rfl | exact hwr | exact hwq | refine Later.drew ?_ | refine Later.alloc ?_ _)) (fun hHeld => ?_)
       clear hK K
       try simp only [Act.put, List.setIfInBounds_toArray, List.set_cons_zero, List.set_cons_succ]
       refine tk 12 (some 44) (v := ?_) ?_ ?_; rotate_left 1; (intro w hSw; (try dsimp only at hSw); go_simp <;> with_reducible rfl); try simp only [Act.put, List.setIfInBounds_toArray, List.set_cons_zero, List.set_cons_succ]
       refine tk 13 (some 45) (v := ?_) ?_ ?_; rotate_left 1; (intro w hSw; (try dsimp only at hSw); go_simp <;> with_reducible rfl); try simp only [Act.put, List.setIfInBounds_toArray, List.set_cons_zero, List.set_cons_succ]
       refine tk 14 (some 46) (v := ?_) ?_ ?_; rotate_left 1; (intro w hSw; (try dsimp only at hSw); go_simp <;> with_reducible rfl); try simp only [Act.put, List.setIfInBounds_toArray, List.set_cons_zero, List.set_cons_succ]
       refine tkn 15 (some 47) ?_
       try simp only [Act.put, List.setIfInBounds_toArray, List.set_cons_zero, List.set_cons_succ]
       refine tkn 16 (some 48) ?_
       try simp only [Act.put, List.setIfInBounds_toArray, List.set_cons_zero, List.set_cons_succ]
       refine tkn 17 (some 49) ?_
       try simp only [Act.put, List.setIfInBounds_toArray, List.set_cons_zero, List.set_cons_succ]
       refine tkn 18 (some 50) ?_
       try simp only [Act.put, List.setIfInBounds_toArray, List.set_cons_zero, List.set_cons_succ]
       refine tkn 19 (some 51) ?_
       try simp only [Act.put, List.setIfInBounds_toArray, List.set_cons_zero, List.set_cons_succ]
       refine tkn 20 (some 52) ?_
       try simp only [Act.put, List.setIfInBounds_toArray, List.set_cons_zero, List.set_cons_succ]
       refine tk 21 (some 53) (v := ?_) ?_ ?_; rotate_left 1; (intro w hSw; (try dsimp only at hSw); go_simp <;> with_reducible rfl); try simp only [Act.put, List.setIfInBounds_toArray, List.set_cons_zero, List.set_cons_succ]
       refine tk 22 (some 54) (v := ?_) ?_ ?_; rotate_left 1; (intro w hSw; (try dsimp only at hSw); go_simp <;> with_reducible rfl); try simp only [Act.put, List.setIfInBounds_toArray, List.set_cons_zero, List.set_cons_succ]
       refine tkn 23 (some 55) ?_
       try simp only [Act.put, List.setIfInBounds_toArray, List.set_cons_zero, List.set_cons_succ]
       refine tkn 24 (some 56) ?_
       try simp only [Act.put, List.setIfInBounds_toArray, List.set_cons_zero, List.set_cons_succ]
       refine tkn 25 (some 57) ?_
       try simp only [Act.put, List.setIfInBounds_toArray, List.set_cons_zero, List.set_cons_succ]
       refine tkn 26 (some 58) ?_
       try simp only [Act.put, List.setIfInBounds_toArray, List.set_cons_zero, List.set_cons_succ]
       refine tkn 27 (some 59) ?_
       try simp only [Act.put, List.setIfInBounds_toArray, List.set_cons_zero, List.set_cons_succ]
       refine tkn 28 (some 60) ?_
       try simp only [Act.put, List.setIfInBounds_toArray, List.set_cons_zero, List.set_cons_succ]
       refine tk 29 (some 61) (v := ?_) ?_ ?_; rotate_left 1; (intro w hSw; (try dsimp only at hSw); go_simp <;> with_reducible rfl); try simp only [Act.put, List.setIfInBounds_toArray, List.set_cons_zero, List.set_cons_succ]
       refine tk 30 (some 62) (v := ?_) ?_ ?_; rotate_left 1; (intro w hSw; (try dsimp only at hSw); go_simp <;> with_reducible rfl); try simp only [Act.put, List.setIfInBounds_toArray, List.set_cons_zero, List.set_cons_succ]
       refine tkn 31 (some 63) ?_
       try simp only [Act.put, List.setIfInBounds_toArray, List.set_cons_zero, List.set_cons_succ]
       refine tkn 32 (some 64) ?_
       try simp only [Act.put, List.setIfInBounds_toArray, List.set_cons_zero, List.set_cons_succ]
       refine tkn 33 (some 65) ?_
       try simp only [Act.put, List.setIfInBounds_toArray, List.set_cons_zero, List.set_cons_succ]
       refine tkn 34 (some 66) ?_
       try simp only [Act.put, List.setIfInBounds_toArray, List.set_cons_zero, List.set_cons_succ]
       refine tkn 35 (some 67) ?_
       try simp only [Act.put, List.setIfInBounds_toArray, List.set_cons_zero, List.set_cons_succ]
       refine tkn 36 (some 68) ?_
       try simp only [Act.put, List.setIfInBounds_toArray, List.set_cons_zero, List.set_cons_succ]
       refine tkn 37 (some 69) ?_
       try simp only [Act.put, List.setIfInBounds_toArray, List.set_cons_zero, List.set_cons_succ]
       refine tk 38 (some 70) (v := ?_) ?_ ?_; rotate_left 1; (intro w hSw; (try dsimp only at hSw); go_simp <;> with_reducible rfl); try simp only [Act.put, List.setIfInBounds_toArray, List.set_cons_zero, List.set_cons_succ]
       refine tk 39 (some 11) (v := ?_) ?_ ?_; rotate_left 1; (intro w hSw; (try dsimp only at hSw); go_simp <;> with_reducible rfl); try simp only [Act.put, List.setIfInBounds_toArray, List.set_cons_zero, List.set_cons_succ]
       refine wpAnyH_done (by kernel_rfl) ?_ _
       go_wp2_with fail
       go_meet
       case rel => exact ⟨by rw [HQ.out], (by repeat (first | exact Later.rfl | exact hwq | refine Later.drew ?_ | refine Later.alloc ?_ _))⟩
      exact AllReadyH.nil
    ·
     have HQ := hide (show qb = false from by rw [← Hqb.out]; exact decide_eq_false (fun hh => hno _ hh.2.1))
     clear hno ha0
     go_quiet (fail)
     go_wp2_with fail
     go_meet
     case rel => exact ⟨by rw [HQ.out], by first | exact Later.rfl.drewN _ | exact Later.rfl.drew | exact Later.rfl⟩
   ·
    have HQ := hide (show qb = false from by rw [← Hqb.out]; exact decide_eq_false (fun hh => hno _ hh.1.1))
    clear hno
    go_quiet (fail)
    go_wp2_with fail
    go_meet
    case rel => exact ⟨by rw [HQ.out], by first | exact Later.rfl.drewN _ | exact Later.rfl.drew | exact Later.rfl⟩
  case rest =>
   obtain ⟨rfl, hw6⟩ := hcut
   rename World => w6
   have HR6 := hide (HR5.out.only (later_only hw6) (fun h => h))
   have HB6 := hide (HB5.out.later hw6)
   have HZ6 := hide (Later.blk hw6 HZ5.out)
   have Hl6 := hide (Hl5.out.trans hw6)
   clear hw6 HR5 HB5 HZ5 Hl5 HS Hi0 Hi1 Hz0 Hz1
   obtain ⟨_, _, _, p3, _⟩ := HB6.out.pos
   have x2 := HR6.out.cell (i := 2) (by simp)
   simp only [List.getElem_cons_zero, List.getElem_cons_succ] at x2
   obtain ⟨b2, hb2⟩ : ∃ b2, bytes f2 = b2 := ⟨_, rfl⟩
   rw [hb2] at x2
   obtain ⟨y0, y1, y2, y3⟩ := (show _ ∧ _ ∧ _ ∧ _ from ⟨HZ6.out.cellv (i := 0) rfl, HZ6.out.cellv (i := 1) rfl, HZ6.out.cellv (i := 2) rfl, HZ6.out.cellv (i := 3) rfl⟩)
   have v0 := HZ6.out.free 0
   have v1 := HZ6.out.free 1
   have v2 := HZ6.out.free 2
   have v3 := HZ6.out.free 3
   have hne : W.heap.size ≠ h := by omega
   have hne2 : W.heap.size ≠ g1 := by omega
   have HF := hide (line_says (s := s) (t := t.data.toList) Hparts.out H0.out H1.out Hqb.out hok)
   have Hb2 := hide hb2
   clear hb2 H0 H1 Hqb hok
   go_upto_region 7 with (fail)
   go_big_region
   go_wp2_with fail
   have HZ7 := hide (((((HZ6.out.set_ 0 (.int .i64 s.p.turn)).set_ 1 (.int .i64 n0)).set_ 2 (.string b2)).set_ 3 (.int .i64 n1)))
   obtain ⟨u0, u1, u2, u3⟩ := (show _ ∧ _ ∧ _ ∧ _ from ⟨HZ7.out.drew.cellv (i := 0) rfl, HZ7.out.drew.cellv (i := 1) rfl, HZ7.out.drew.cellv (i := 2) rfl, HZ7.out.drew.cellv (i := 3) rfl⟩)
   have HL := hide (later_box (vs := fun i => if i = 2 then .string b2 else if i = 0 then .int .i64 s.p.turn else if i = 1 then .int .i64 n0 else .int .i64 n1) Hl6.out)
   refine bodyPost_ret (v := .tuple #[.agg #[.int .i64 s.p.turn, .int .i64 n0, .string b2, .int .i64 n1], .bool qb]) (by simp [results, Tryz.results66, go_sem, u0, u1, u2, u3]) rfl ⟨⟨s.p.turn, n0, b2, n1⟩, qb, rfl, fun h => ?_, HF.out.2, HL.out.drew⟩
   obtain ⟨h1, h2⟩ := HF.out.1 h
   rw [Hb2.out] at h1
   exact ⟨h1, by rw [h2]; rfl⟩
 ·
  have d3 : ((n : Int) != 3) = true := by simp; omega
  have Hno := hide (show ∀ mv a, ¬ LineP s t.data.toList mv a from fun mv a hl => by
   have e := hl.split hok.ply hok.now
   rw [Hparts0.out] at e
   apply h3
   rw [Hn.out, e]
   rfl)
  obtain ⟨y0, y1, y2, y3⟩ := (show _ ∧ _ ∧ _ ∧ _ from ⟨HZ1.out.cellv (i := 0) rfl, HZ1.out.cellv (i := 1) rfl, HZ1.out.cellv (i := 2) rfl, HZ1.out.cellv (i := 3) rfl⟩)
  have v0 := HZ1.out.free 0
  have v1 := HZ1.out.free 1
  have v2 := HZ1.out.free 2
  have v3 := HZ1.out.free 3
  clear h3 hok
  go_wp2_with fail
  have HZ7 := hide (((((HZ1.out.set_ 0 (.int .i64 0)).set_ 1 (.int .i64 0)).set_ 2 (.string ⟨#[]⟩)).set_ 3 (.int .i64 0)))
  obtain ⟨u0, u1, u2, u3⟩ := (show _ ∧ _ ∧ _ ∧ _ from ⟨HZ7.out.cellv (i := 0) rfl, HZ7.out.cellv (i := 1) rfl, HZ7.out.cellv (i := 2) rfl, HZ7.out.cellv (i := 3) rfl⟩)
  have HL := hide (later_box (vs := fun i => if i = 2 then .string ⟨#[]⟩ else .int .i64 0) Hl1.out)
  refine bodyPost_ret (v := .tuple #[.agg #[.int .i64 0, .int .i64 0, .string ⟨#[]⟩, .int .i64 0], .bool false]) (by simp [results, Tryz.results66, go_sem, u0, u1, u2, u3]) rfl ⟨⟨0, 0, ⟨#[]⟩, 0⟩, false, rfl, fun h => (by cases h), fun _ => Hno.out, HL.out⟩
end Go.Proofs.YtcdfeaodfmfdnaaGreatDoor
