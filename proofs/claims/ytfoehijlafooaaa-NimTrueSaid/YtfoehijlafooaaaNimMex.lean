/- nim.mex answers the least natural number that is not in its list; it makes memory of its own alone. -/
import Derived.Test.YtfoehijlafooaaaRows
import Derived.Test.YtfoehijlafooaaaBase
import Derived.Test.YtfoehijlafooaaaMexPlain
namespace Go.Proofs.Ytfoehijlafooaaa
open Go.RowKit

theorem info_bool : (Try.prog.info? 4).map (fun i => (i.zero, i.size, i.bytes)) = some (some (.bool false), 1, 1) := by kernel_rfl

def SeenAt (l : List Int) (k : Nat) (cs : Array Value) : Prop :=
  cs.size = l.length + 1 ∧ ∀ j (_ : j < l.length + 1), cs[j]? = some (.bool (decide ((j : Int) ∈ l.take k)))

theorem SeenAt.zero (l : List Int) : SeenAt l 0 (Array.replicate (l.length + 1) (.bool false)) :=
  ⟨by simp, fun j hj => by simp [hj]⟩
theorem SeenAt.skip {l : List Int} {k : Nat} {cs : Array Value} (h : SeenAt l k cs) (hk : k < l.length) (hn : l[k] < 0 ∨ (l.length : Int) + 1 ≤ l[k]) : SeenAt l (k + 1) cs :=
  ⟨h.1, fun j hj => by
    rw [h.2 j hj, List.take_succ_eq_append_getElem hk]
    have : ¬ (j : Int) = l[k] := by omega
    simp only [List.mem_append, List.mem_singleton, this, or_false]⟩
theorem SeenAt.set_ {l : List Int} {k : Nat} {cs : Array Value} (h : SeenAt l k cs) (hk : k < l.length) (m : Nat) (hm : l[k] = m) (_hlt : m < l.length + 1) : SeenAt l (k + 1) (cs.setIfInBounds m (.bool true)) :=
  ⟨by simp [h.1], fun j hj => by
    rw [List.take_succ_eq_append_getElem hk, hm]
    by_cases e : m = j
    · subst e
      simp only [List.mem_append, List.mem_singleton, or_true, decide_true]
      simp [h.1, hj]
    · rw [Array.getElem?_setIfInBounds_ne e, h.2 j hj]
      have : ¬ (j : Int) = (m : Int) := by omega
      simp only [List.mem_append, List.mem_singleton, this, or_false]⟩

set_option maxHeartbeats 1000000 in
set_option maxRecDepth 20000 in
theorem mex_any (A : Option Addr) (c : Nat) (l : List Int) (w : World) (B : Nat) (hB : B ≤ w.heap.size) (hm : l.length ≤ 1000000) (hnn : ∀ x ∈ l, 0 ≤ x) (h : Cells w B A (ints l)) :
    Calls Try.prog 45 #[.slice A l.length c] w fun e w' => e = .returned (.int .i64 (mexS l)) ∧ Below w.heap.size w w' := by
  obtain ⟨i0, hi, hz0, hz1, hz2⟩ := info_parts info_bool
  have hmk := fun W => run_make1 (P := Try.prog) 89 4 i0 (.bool false) Try.underlying89 hi hz0 hz1 rfl .i64 .i64 (l.length + 1) (by rw [hz2]; omega) (by omega) W
  simp only [Int.natCast_add, Int.cast_ofNat_Int] at hmk
  go_enter Try.func45, Try.ntmps45
  go_wp2
  go_loopw [14] (fun i wr => ∃ (k : Nat) (cs : Array Value), k ≤ l.length ∧ i = .int .i64 k ∧ SeenAt l k cs ∧ Blk wr w.heap.size 4 cs ∧ Below w.heap.size w wr) (fun i _ => l.length - (intOf i).toNat)
  case atStart => exact ⟨0, _, by omega, rfl, SeenAt.zero l, Blk.new _ _ _, (Below.refl _ _).alloc (Nat.le_refl _) _⟩
  case round =>
    obtain ⟨k, cs, hk, rfl, hsn, hblk, hbw⟩ := hrel
    clear hmk
    have Hsn := hide hsn
    have Hblk := hide hblk
    have hsz := hsn.1
    clear hblk
    by_cases hlt : k < l.length
    · have hkl : k < (ints l).length := by simpa using hlt
      have hc0 := h.below (hbw.mono hB)
      obtain ⟨b, off, rfl, hb, hcell⟩ := hc0.at_ hkl
      rw [ints_get] at hcell
      have hnk : 0 ≤ l[k] := hnn _ (List.getElem_mem hlt)
      have Hh := hide h
      have Hnn := hide hnn
      have Hbw := hide hbw
      clear hc0 h hnn hbw hsn hsz
      by_cases hin : l[k] < (l.length : Int) + 1
      · obtain ⟨m, hmm⟩ : ∃ m : Nat, l[k] = m := ⟨l[k].toNat, by omega⟩
        have Hmm := hide hmm
        have hml : m < l.length + 1 := by omega
        have hin2 : (m : Int) < (l.length : Int) + 1 := by omega
        rw [hmm] at hcell
        have hold : wr.cell? ⟨w.heap.size, m, none⟩ = some (.bool (decide ((m : Int) ∈ l.take k))) := Hblk.out.cellv (Hsn.out.2 m hml)
        have hfr := Hblk.out.free m
        clear hmm hin hnk
        go_wp2
        go_roundw
        case rel =>
          have hS := Hsn.out.set_ hlt m Hmm.out hml
          exact ⟨k + 1, _, by omega, by go_num, hS, Hblk.out.set_ m _, Hbw.out.setCell (p := ⟨w.heap.size, m, none⟩) (Nat.le_refl _) _⟩
        case measure => simp [intOf]; omega
      · go_wp2
        go_roundw
        case rel => exact ⟨k + 1, cs, by omega, by go_num, Hsn.out.skip hlt (.inr (by omega)), Hblk.out, Hbw.out⟩
        case measure => simp [intOf]; omega
    · have hkl : k = l.length := by omega
      subst hkl
      have Hbw := hide hbw
      clear hbw hsn hsz h
      go_wp2
      go_loop [28] (fun i => ∃ k : Nat, k ≤ l.length + 1 ∧ i = .int .i64 k ∧ ∀ j : Nat, j < k → (j : Int) ∈ l) (fun i => l.length + 1 - (intOf i).toNat)
      case atStart => exact ⟨0, by omega, rfl, by intro j hj; omega⟩
      case round =>
        obtain ⟨k, hk, rfl, hall⟩ := hrel
        have hkl : k ≤ l.length := pigeon k l hall
        have hlt : k < l.length + 1 := by omega
        have hcell := Hblk.out.cellv (Hsn.out.2 k hlt)
        rw [List.take_length] at hcell
        have Hall := hide hall
        clear hall
        by_cases hin : (k : Int) ∈ l
        · have hin' : decide ((k : Int) ∈ l) = true := by simpa using hin
          rw [hin'] at hcell
          have Hin := hide hin
          clear hin hin'
          go_wp2
          go_round
          case rel => exact ⟨k + 1, by omega, by go_num, fun j hj => by
            by_cases e : j = k
            · subst e; exact Hin.out
            · exact Hall.out j (by omega)⟩
          case measure => simp [intOf]; omega
        · have hin' : decide ((k : Int) ∈ l) = false := by simpa using hin
          rw [hin'] at hcell
          have Hres := hide (mexS_eq ⟨Hall.out, hin⟩)
          clear hin hin'
          go_wp2
          go_ret
          exact ⟨by rw [Hres.out]; rfl, Hbw.out⟩
end Go.Proofs.Ytfoehijlafooaaa
