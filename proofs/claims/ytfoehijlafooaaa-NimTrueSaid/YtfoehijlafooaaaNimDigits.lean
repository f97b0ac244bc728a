/- nim.digits: which texts are codes, and their digits. -/
import Derived.Test.YtfoehijlafooaaaHeapPlain
import Derived.Test.YtfoehijlafooaaaNimEach
import Derived.Test.YtfoehijlafooaaaOwn
import Derived.Lib.Strings
namespace Go.Proofs.Ytfoehijlafooaaa
open Go.RowKit

/-- behind "0.": one to six digits, none above 7 -/
def TailOk (t : List UInt8) : Prop := 1 ≤ t.length ∧ t.length ≤ 6 ∧ ∀ i, ∀ h : i < t.length, 48 ≤ t[i].toNat ∧ t[i].toNat ≤ 55
def CodeOk (l : List UInt8) : Prop := l.take 2 = [48, 46] ∧ TailOk (l.drop 2)
def digsOf (l : List UInt8) : List Nat := (l.drop 2).map fun c => c.toNat - 48

def CutAns (s : ByteArray) (w : World) (e : Ending) (w' : World) : Prop :=
  w = w' ∧ ((s.data.toList.take 2 = [48, 46] ∧ ∃ t : ByteArray, t.data.toList = s.data.toList.drop 2 ∧ e = .returned (.tuple #[.string t, .bool true])) ∨ (s.data.toList.take 2 ≠ [48, 46] ∧ e = .returned (.tuple #[.string s, .bool false])))

set_option maxHeartbeats 400000 in
theorem cut_any (s : ByteArray) (w : World) (hs : s.size ≤ 9223372036854775807) : Calls Try.prog 78 #[.string s, .string ⟨#[48, 46]⟩] w (CutAns s w) := by
  by_cases h2 : 2 ≤ s.size
  · cases he : (s.extract 0 2).toList == [48, 46] with
    | true =>
      have hx : s.data.toList.take 2 = [48, 46] := by
        rw [beq_iff_eq, Lib.extract_toList] at he; simpa using he
      have Hx := hide hx
      have Ht := hide (show (s.extract 2 s.size).data.toList = s.data.toList.drop 2 by
        rw [Lib.extract_data, List.take_of_length_le]; rw [Lib.size_eq]; simp)
      clear hx
      go_enter Try.func78, Try.ntmps78
      go_wp2
      go_ret2
      exact ⟨rfl, .inl ⟨Hx.out, _, Ht.out, rfl⟩⟩
    | false =>
      have hx : s.data.toList.take 2 ≠ [48, 46] := by
        rw [beq_eq_false_iff_ne, Lib.extract_toList] at he; simpa using he
      have Hx := hide hx
      clear hx
      go_enter Try.func78, Try.ntmps78
      go_wp2
      go_ret2
      exact ⟨rfl, .inr ⟨Hx.out, rfl⟩⟩
  · have hx : s.data.toList.take 2 ≠ [48, 46] := by
      intro h
      have := congrArg List.length h
      rw [Lib.size_eq] at h2
      rw [List.length_take] at this
      simp only [List.length_cons, List.length_nil] at this
      omega
    have Hx := hide hx
    clear hx
    go_enter Try.func78, Try.ntmps78
    go_wp2
    go_ret2
    exact ⟨rfl, .inr ⟨Hx.out, rfl⟩⟩

theorem no_code {s : List UInt8} (h : s.take 2 ≠ [48, 46]) : ¬ CodeOk s := fun hc => h hc.1

def DigAns (s : ByteArray) (w : World) (e : Ending) (w' : World) : Prop :=
  Below w.heap.size w w' ∧
  ((CodeOk s.data.toList ∧ ∃ A c, e = .returned (.tuple #[.slice A (digsOf s.data.toList).length c, .bool true]) ∧ (digsOf s.data.toList).length ≤ c ∧ Cells w' w'.heap.size A (ints (natsI (digsOf s.data.toList)))) ∨
   (¬ CodeOk s.data.toList ∧ e = .returned (.tuple #[.slice none 0 0, .bool false])))

theorem info_int2 : (Try.prog.info? 3).map (fun i => (i.zero, i.size, i.bytes)) = some (some (.int .i64 0), 1, 8) := by kernel_rfl

set_option maxHeartbeats 2000000 in
set_option maxRecDepth 20000 in
theorem digits_any (s : ByteArray) (w : World) (hs : s.size ≤ 9223372036854775807) : Calls Try.prog 54 #[.string s] w (DigAns s w) := by
  have Hc := hide (cut_any s w hs)
  go_enter Try.func54, Try.ntmps54
  go_wp2_with fail
  refine Hc.out.mono ?_
  rintro e w' ⟨rfl, ⟨hx, t, ht, rfl⟩ | ⟨hx, rfl⟩⟩
  case inr =>
    have Hx := hide hx
    clear hx
    go_wp2_with fail
    go_ret2
    exact ⟨Below.refl _ _, .inr ⟨no_code Hx.out, rfl⟩⟩
  have htl : t.size = t.data.toList.length := Lib.size_eq t
  have Hx := hide hx
  have Ht := hide ht
  have Htl := hide htl
  have htm : t.size ≤ 9223372036854775807 := by
    have h1 := congrArg List.length ht
    rw [List.length_drop, ← Lib.size_eq, ← Lib.size_eq] at h1
    omega
  clear hx ht htl Hc
  by_cases h1 : (t.size : Int) < 1
  · go_wp2_with fail
    go_ret2
    exact ⟨Below.refl _ _, .inr ⟨fun hc => by have := hc.2.1; rw [← Ht.out] at this; have := Htl.out; omega, rfl⟩⟩
  by_cases h2 : (6 : Int) < (t.size : Int)
  · go_wp2_with fail
    go_ret2
    exact ⟨Below.refl _ _, .inr ⟨fun hc => by have := hc.2.2.1; rw [← Ht.out] at this; have := Htl.out; omega, rfl⟩⟩
  obtain ⟨i0, hi0, hz0, hz1, hz2⟩ := info_parts info_int2
  have HX := hide (And.intro hi0 (And.intro hz0 (And.intro hz1 hz2)))
  clear hi0 hz0 hz1 hz2
  go_wp2_with fail
  go_loopw [6, 27] (fun l idx wr => ∃ q : Nat, q ≤ t.size ∧ idx = .int .i64 q ∧ wr.ownsRow w.heap.size 3 1 l q (ints (natsI ((t.data.toList.take q).map fun c => c.toNat - 48))) ∧ Below w.heap.size w wr ∧ ∀ i, i < q → ∀ h : i < t.data.toList.length, 48 ≤ t.data.toList[i].toNat ∧ t.data.toList[i].toNat ≤ 55) (fun _ idx _ => t.size - (intOf idx).toNat)
  case atStart => exact ⟨0, by omega, rfl, World.ownsRow_nil _ _ _ _, Below.refl _ _, fun i hi => by omega⟩
  case round =>
    obtain ⟨q, hq, rfl, hown, hbw, hall⟩ := hrel
    have Hown := hide hown
    have Hbw := hide hbw
    have Hall := hide hall
    have hbsz := hbw.size
    clear hown hbw hall
    by_cases hlt : q < t.size
    · have hql : q < t.data.toList.length := by rw [← Htl.out]; exact hlt
      obtain ⟨c, hcq⟩ : ∃ c : UInt8, t[q] = c := ⟨_, rfl⟩
      have hlq : t.data.toList[q] = c := hcq
      have Hlq := hide hlq
      have hc256 : (c.toNat : Int) < 256 := by have := c.toNat_lt; omega
      clear hlq
      by_cases c1 : (c.toNat : Int) < 48
      · go_wp2_with fail
        go_ret2
        refine ⟨Hbw.out, .inr ⟨fun hc => ?_, rfl⟩⟩
        have h3 := hc.2.2.2
        simp only [← Ht.out] at h3
        have h4 := h3 q hql
        rw [Hlq.out] at h4
        omega
      by_cases c2 : (55 : Int) < (c.toNat : Int)
      · go_wp2_with fail
        go_ret2
        refine ⟨Hbw.out, .inr ⟨fun hc => ?_, rfl⟩⟩
        have h3 := hc.2.2.2
        simp only [← Ht.out] at h3
        have h4 := h3 q hql
        rw [Hlq.out] at h4
        omega
      have hsub : (c.toNat : Int) - 48 = ((c.toNat - 48 : Nat) : Int) := by omega
      have hsub2 : IntKind.i64.wrap ((c.toNat - 48 : Nat) : Int) = ((c.toNat - 48 : Nat) : Int) := IntWalk.i64_in _ (by omega)
      obtain ⟨x, hx⟩ : ∃ x, c.toNat - 48 = x := ⟨_, rfl⟩
      rw [hx] at hsub hsub2
      have Hx2 := hide hx
      have hap := hide (Hown.out.alloc (.cells #[.int .i64 (x : Int)] 3))
      have Hcn := hide (show (wr.alloc (.cells #[.int .i64 (x : Int)] 3)).cell? ⟨wr.heap.size, 0, none⟩ = some (.int .i64 (x : Int)) by simp [go_sem])
      clear hx
      go_wp2_with (at_builtin; refine wpList_push1 _ rfl (.tmp 40) (.tmp 46) 26 rfl w.heap.size 3 i0 (.int .i64 0) 8 Try.underlying26 HX.out.1 HX.out.2.1 HX.out.2.2.1 HX.out.2.2.2 rfl _ q _ rfl hap.out (.int .i64 (x : Int)) wr.heap.size rfl Hcn.out rfl ?h2 ?h3 ?h4 ?_)
      case h2 => unfold maxLen; omega
      case h3 => omega
      case h4 => first | omega | (simp; omega)
      intro v3 w3 hown3 hO3 hw3
      have Hown3 := hide hown3
      have HO3 := hide hO3
      clear hown3 hO3 hw3
      go_wp2_with fail
      go_roundw
      case rel =>
        have hO4 := ((Only.refl (fun k => w.heap.size ≤ k) wr).alloc (.cells #[.int .i64 (x : Int)] 3)).trans' (HO3.out.mono (S' := fun k => w.heap.size ≤ k) (fun k _ hk => (Hown.out.lt k hk).1)) (fun k _ h => h)
        refine ⟨q + 1, by omega, by go_num, ?_, Hbw.out.trans (hO4.below_ (fun k h => h) Hbw.out.size), fun i hi h => ?_⟩
        · have h := Hown3.out
          rw [List.take_succ_eq_append_getElem hql, Hlq.out, List.map_append]
          simpa [ints, natsI, Hx2.out] using h
        · by_cases e : i = q
          · subst e; rw [Hlq.out]; omega
          · exact Hall.out i (by omega) h
      case measure => simp [intOf]; omega
    · go_wp2_with fail
      go_ret2
      have hqe : q = t.size := by omega
      subst hqe
      have hd : digsOf s.data.toList = t.data.toList.map fun c => c.toNat - 48 := by unfold digsOf; rw [Ht.out]
      have hown := Hown.out
      rw [Htl.out, List.take_length, ← hd, ← Htl.out] at hown
      obtain ⟨A, c, rfl, hle, hl, hc⟩ := Cells.of_own hown
      have hdl : (digsOf s.data.toList).length = t.size := by rw [hd, List.length_map, Htl.out]
      refine ⟨Hbw.out, .inl ⟨⟨Hx.out, ?_⟩, A, c, by rw [hdl]; rfl, by rw [hdl]; exact hle, hc⟩⟩
      rw [← Ht.out]
      have := Htl.out
      exact ⟨by omega, by omega, fun i h => Hall.out i (by omega) h⟩
end Go.Proofs.Ytfoehijlafooaaa
