/- what the calls of gamelaw.TourneyTable answer -/
import Derived.Test.YtfoehijlafooaaaFlWalk
import Derived.Test.YtfoehijlafooaaaFlRef
import Derived.Test.YtfoehijlafooaaaFlBad
import Derived.Test.YtfoehijlafooaaaTourRefRes
import Derived.Test.YtfoehijlafooaaaRanks
import Derived.Test.YtfoehijlafooaaaFlSame
namespace Go.Proofs.Ytfoehijlafooaaa
open Go.RowKit Ieee

/-- Rate of what is right -/
theorem rate_ok (A0 A : Option Addr) (c0 c : Nat) (start : List Nat) (rs : List Res) (k : Nat) (W : World) (hS : Cells W W.heap.size A0 (flts start)) (hA : Cells W W.heap.size A (ints (flatR rs))) (h200 : start.length ≤ 200) (hok : ResOk start.length rs) (hk : fairF k = true) (hu : unfair start = false) :
    Calls Try.prog 37 #[.slice A0 start.length c0, .slice A rs.length c, .float .f64 k] W fun e w' => ∃ A' c', e = .returned (.tuple #[.slice A' start.length c', .int .i64 0]) ∧ Cells w' w'.heap.size A' (flts (ratL k start rs)) ∧ Below W.heap.size W w' := by
  cases start with
  | nil =>
    cases rs with
    | nil => exact (rate_empty A0 A c0 c k W hk).mono fun e w' ⟨A', c', h1, h2⟩ => ⟨A', c', h1, fun h => by simp [ratL, flts] at h, h2⟩
    | cons r rs => exact absurd (hok.2 r (by simp)) (by unfold ResGood; simp; omega)
  | cons s start => exact rate_good A0 A c0 c _ rs k W hS hA (by simp) h200 hok hk hu
theorem rated_ok (A0 A : Option Addr) (c0 c : Nat) (start : List Nat) (rs : List Res) (k : Nat) (W : World) (hS : Cells W W.heap.size A0 (flts start)) (hA : Cells W W.heap.size A (ints (flatR rs))) (h200 : start.length ≤ 200) (hok : ResOk start.length rs) (hk : fairF k = true) (hu : unfair start = false) :
    Calls Try.prog 42 #[.slice A0 start.length c0, .slice A rs.length c, .float .f64 k] W fun e w' => ∃ A' c', e = .returned (.slice A' start.length c') ∧ Cells w' w'.heap.size A' (flts (ratL k start rs)) ∧ Below W.heap.size W w' := by
  cases start with
  | nil =>
    cases rs with
    | nil => exact (rated_empty A0 A c0 c k W).mono fun e w' ⟨A', c', h1, h2⟩ => ⟨A', c', h1, fun h => by simp [ratL, flts] at h, h2⟩
    | cons r rs => exact absurd (hok.2 r (by simp)) (by unfold ResGood; simp; omega)
  | cons s start => exact rated_good A0 A c0 c _ rs k W hS hA (by simp) h200 hok hk hu

def fairTo (start : List Nat) (q : Nat) : Bool := (start.take q).all fairF
theorem fairTo_succ {start : List Nat} {q : Nat} (h : q < start.length) : fairTo start (q + 1) = (fairTo start q && fairF start[q]) := by
  unfold fairTo
  rw [List.take_add_one, List.getElem?_eq_getElem h, List.all_append]
  simp
theorem fairTo_all (start : List Nat) : fairTo start start.length = !unfair start := by
  unfold fairTo unfair
  rw [List.take_length, List.not_any_eq_all_not]
  congr 1
  funext x
  simp
theorem fairTo_good {start : List Nat} (h : unfair start = false) {q : Nat} (hq : q < start.length) : fairF start[q] = true := by
  unfold unfair at h
  rw [List.any_eq_false] at h
  have := h start[q] (List.getElem_mem hq)
  simpa using this

/-- what was there is as it was -/
def Later (w w' : World) : Prop := Below w.heap.size w w'
theorem Later.rfl {w : World} : Later w w := Below.refl _ _
theorem Later.trans {a b c : World} (h : Later a b) (k : Later b c) : Later a c := Below.trans h (k.mono h.size)
theorem results_l (m : Int) (v : Bool) (A : Option Addr) (c : Nat) (rs : List Res) (W : World) (hr : rs.length ≤ 9223372036854775807) (hA : Cells W W.heap.size A (ints (flatR rs))) (hv : resB m rs = v) (w : World) (h : Later W w) :
    Calls Try.prog 38 #[.int .i64 m, .slice A rs.length c] w fun e w' => e = .returned (.bool v) ∧ Later w w' := by
  subst hv
  exact rresults_any m A c rs w hr ((hA.below h).more h.size)
theorem ranks_l (n : Nat) (A : Option Addr) (c : Nat) (rs : List Res) (W : World) (hA : Cells W W.heap.size A (ints (flatR rs))) (hn : n ≤ 200) (hok : ResOk n rs) (w : World) (h : Later W w) :
    Calls Try.prog 39 #[.int .i64 n, .slice A rs.length c] w fun e w' => ∃ A' c', e = .returned (.slice A' n c') ∧ Cells w' w'.heap.size A' (ints (flatR (rankL rs n))) ∧ Later w w' :=
  ranks_any n A c rs w ((hA.below h).more h.size) hn hok
theorem samerk_l (n : Nat) (rs : List Res) (A1 : Option Addr) (c1 : Nat) (A2 : Option Addr) (c2 : Nat) (w : World) (B1 B2 : Nat) (hn : n ≤ 200) (h1 : Cells w B1 A1 (ints (flatR (rankL rs n)))) (h2 : Cells w B2 A2 (ints (flatR (rankL rs n)))) :
    Calls Try.prog 36 #[.slice A1 n c1, .slice A2 n c2] w fun e w' => e = .returned (.bool true) ∧ Later w w' := by
  have hl := rankL_len rs n
  have h := same_rk A1 A2 c1 c2 (rankL rs n) (rankL rs n) w B1 B2 (by omega) (by omega) h1 h2
  rw [hl] at h
  exact h.mono fun e w' ⟨he, q, hw⟩ => ⟨by rw [he]; simp, by rw [hw]; exact below_drewN (Below.refl _ _) q⟩
theorem fair_l (x : Nat) (v : Bool) (hv : fairF x = v) (w : World) : Calls Try.prog 40 #[.float .f64 x] w fun e w' => e = .returned (.bool v) ∧ w' = w := by
  subst hv
  exact rfair_any x w
theorem ratebad_l (A0 A : Option Addr) (c0 c : Nat) (start : List Nat) (rs : List Res) (k : Nat) (W : World) (hm : start.length ≤ 9223372036854775807) (hr : rs.length ≤ 9223372036854775807) (hS : Cells W W.heap.size A0 (flts start)) (hA : Cells W W.heap.size A (ints (flatR rs))) (hbad : ¬ (start.length ≤ 200 ∧ ResOk start.length rs ∧ fairF k = true ∧ unfair start = false)) (w : World) (h : Later W w) :
    Calls Try.prog 37 #[.slice A0 start.length c0, .slice A rs.length c, .float .f64 k] w fun e w' => e = .returned (.tuple #[.slice none 0 0, .int .i64 1]) ∧ Later w w' :=
  rate_bad A0 A c0 c start rs k w hm hr ((hS.below h).more h.size) ((hA.below h).more h.size) hbad
theorem rateok_l (A0 A : Option Addr) (c0 c : Nat) (start : List Nat) (rs : List Res) (k : Nat) (W : World) (hS : Cells W W.heap.size A0 (flts start)) (hA : Cells W W.heap.size A (ints (flatR rs))) (h200 : start.length ≤ 200) (hok : ResOk start.length rs) (hk : fairF k = true) (hu : unfair start = false) (w : World) (h : Later W w) :
    Calls Try.prog 37 #[.slice A0 start.length c0, .slice A rs.length c, .float .f64 k] w fun e w' => ∃ A' c', e = .returned (.tuple #[.slice A' start.length c', .int .i64 0]) ∧ Cells w' w'.heap.size A' (flts (ratL k start rs)) ∧ Later w w' :=
  rate_ok A0 A c0 c start rs k w ((hS.below h).more h.size) ((hA.below h).more h.size) h200 hok hk hu
theorem ratedok_l (A0 A : Option Addr) (c0 c : Nat) (start : List Nat) (rs : List Res) (k : Nat) (W : World) (hS : Cells W W.heap.size A0 (flts start)) (hA : Cells W W.heap.size A (ints (flatR rs))) (h200 : start.length ≤ 200) (hok : ResOk start.length rs) (hk : fairF k = true) (hu : unfair start = false) (w : World) (h : Later W w) :
    Calls Try.prog 42 #[.slice A0 start.length c0, .slice A rs.length c, .float .f64 k] w fun e w' => ∃ A' c', e = .returned (.slice A' start.length c') ∧ Cells w' w'.heap.size A' (flts (ratL k start rs)) ∧ Later w w' :=
  rated_ok A0 A c0 c start rs k w ((hS.below h).more h.size) ((hA.below h).more h.size) h200 hok hk hu
theorem sameflt_l (start : List Nat) (rs : List Res) (k : Nat) (A1 : Option Addr) (c1 : Nat) (A2 : Option Addr) (c2 : Nat) (w : World) (B1 B2 : Nat) (hm : start.length ≤ 9223372036854775807) (hok : ResOk start.length rs) (hk : fairF k = true) (hu : unfair start = false) (h1 : Cells w B1 A1 (flts (ratL k start rs))) (h2 : Cells w B2 A2 (flts (ratL k start rs))) :
    Calls Try.prog 41 #[.slice A1 start.length c1, .slice A2 start.length c2] w fun e w' => e = .returned (.bool true) ∧ Later w w' := by
  have hl := ratL_len k start rs
  have hsf : FinAll 1000000 start := fun j hj => fin_fair (fairTo_good hu hj)
  have hfin := ratL_fin (fin_fair hk) hsf rfl hok rs.length (Nat.le_refl _)
  rw [List.take_length] at hfin
  have h := same_flt A1 A2 c1 c2 (ratL k start rs) w B1 B2 (by omega) (fun x hx => by
    obtain ⟨j, hj, rfl⟩ := List.getElem_of_mem hx
    exact order_self (hfin j hj)) h1 h2
  rw [hl] at h
  exact h.mono fun e w' ⟨he, q, hw⟩ => ⟨he, by rw [hw]; exact below_drewN (Below.refl _ _) q⟩
end Go.Proofs.Ytfoehijlafooaaa
