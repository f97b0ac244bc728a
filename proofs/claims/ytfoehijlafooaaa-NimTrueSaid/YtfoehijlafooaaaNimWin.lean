/- nim.Win: what it answers -/
import Derived.Test.YtfoehijlafooaaaNimWinB
import Derived.Test.YtfoehijlafooaaaXorPlain
namespace Go.Proofs.Ytfoehijlafooaaa
open Go.RowKit

theorem xorP_cons (G : Nat → Nat) (x : Nat) (ns : List Nat) : xorP G (x :: ns) = G x ^^^ xorP G ns := by
  have h := xorF_eq G (G x) ns
  simp only [xorF] at h
  simp only [xorP, List.foldl_cons, Nat.zero_xor]
  exact h

theorem down_one (G : Nat → Nat) : ∀ (ns : List Nat) (t : Nat), t < xorP G ns → ∃ (j : Nat) (h : j < ns.length), xorP G ns ^^^ G ns[j] ^^^ t < G ns[j]
  | [], t, h => by simp [xorP] at h
  | x :: ns, t, h => by
    rw [xorP_cons] at h ⊢
    rcases xor_cases _ (G x) (xorP G ns) t (Nat.le_refl _) h with h1 | h1
    · refine ⟨0, by simp, ?_⟩
      simp only [List.getElem_cons_zero]
      have : G x ^^^ xorP G ns ^^^ G x ^^^ t = t ^^^ xorP G ns := by
        rw [Nat.xor_comm (G x) (xorP G ns), Nat.xor_assoc (xorP G ns) (G x) (G x), Nat.xor_self, Nat.xor_zero, Nat.xor_comm]
      omega
    · obtain ⟨j, hj, hl⟩ := down_one G ns _ h1
      refine ⟨j + 1, by simp; omega, ?_⟩
      simp only [List.getElem_cons_succ]
      have : G x ^^^ xorP G ns ^^^ G ns[j] ^^^ t = xorP G ns ^^^ G ns[j] ^^^ (t ^^^ G x) := by
        rw [← Nat.xor_assoc _ t (G x), Nat.xor_comm _ (G x), Nat.xor_assoc (G x) (xorP G ns), Nat.xor_assoc (G x)]
      omega

theorem win_exists (d ns : List Nat) (h : xorP (gv d) ns ≠ 0) : ∃ (j : Nat) (hj : j < ns.length), ∃ ps ∈ opts d ns[j], xorP (gv d) ns ^^^ gv d ns[j] ^^^ xorP (gv d) ps = 0 := by
  obtain ⟨j, hj, hl⟩ := down_one (gv d) ns 0 (by omega)
  refine ⟨j, hj, ?_⟩
  rw [Nat.xor_zero] at hl
  obtain ⟨k, hk⟩ : ∃ k, xorP (gv d) ns ^^^ gv d ns[j] = k := ⟨_, rfl⟩
  rw [hk] at hl ⊢
  have hm := (mexS_is ((opts d ns[j]).map fun ps => ((xorP (gv d) ps : Nat) : Int))).1 k (by rw [← gv_eq]; exact hl)
  obtain ⟨ps, hps, he⟩ := List.mem_map.1 hm
  refine ⟨ps, hps, ?_⟩
  have : xorP (gv d) ps = k := by omega
  rw [this, Nat.xor_self]

def HOk (hs : List Int) : Prop := (∀ x ∈ hs, 0 ≤ x ∧ x ≤ 400) ∧ hs.length ≤ 20
/-- what Win tells at good heaps -/
def WinGood (d : List Nat) (ns : List Nat) (e : Ending) (w' : World) : Prop :=
  (xorP (gv d) ns = 0 ∧ e = .returned (.tuple #[.bool false, noHeaps, .int .i64 0])) ∨
  (xorP (gv d) ns ≠ 0 ∧ ∃ (i : Nat) (hi : i < ns.length) (dn : List (List Nat)) (ps : List Nat) (A : Option Addr) (c : Nat),
    e = .returned (.tuple #[.bool true, .agg #[.int .i64 i, .slice A ps.length c], .int .i64 0]) ∧ ps.length ≤ c ∧ Cells w' w'.heap.size A (ints (natsI ps)) ∧ dn ++ [ps] <+: opts d ns[i] ∧
    xorP (gv d) ns ^^^ gv d ns[i] ^^^ xorP (gv d) ps = 0 ∧ (∀ ps' ∈ dn, xorP (gv d) ns ^^^ gv d ns[i] ^^^ xorP (gv d) ps' ≠ 0) ∧
    ∀ j (h : j < i), ∀ ps' ∈ opts d ns[j], xorP (gv d) ns ^^^ gv d ns[j] ^^^ xorP (gv d) ps' ≠ 0)
def WinAns (l : List UInt8) (hs : List Int) (w : World) (e : Ending) (w' : World) : Prop :=
  Below w.heap.size w w' ∧
  ((¬ CodeOk l ∧ e = .returned (.tuple #[.bool false, noHeaps, .int .i64 3])) ∨
   (CodeOk l ∧ ¬ HOk hs ∧ e = .returned (.tuple #[.bool false, noHeaps, .int .i64 4])) ∨
   (CodeOk l ∧ ∃ ns, hs = natsI ns ∧ (∀ x ∈ ns, x ≤ 400) ∧ ns.length ≤ 20 ∧ WinGood (digsOf l) ns e w'))

theorem nats_of {hs : List Int} (h : ∀ x ∈ hs, 0 ≤ x ∧ x ≤ 400) : ∃ ns : List Nat, hs = natsI ns ∧ ∀ x ∈ ns, x ≤ 400 := by
  refine ⟨hs.map Int.toNat, ?_, fun x hx => ?_⟩
  · simp only [natsI, List.map_map]
    symm
    calc hs.map _ = hs.map id := List.map_congr_left (fun x hx => by have := h x hx; simp; omega)
      _ = hs := by simp
  · obtain ⟨y, hy, rfl⟩ := List.mem_map.1 hx
    have := h y hy
    omega

theorem win_any (s : ByteArray) (A : Option Addr) (c : Nat) (hs : List Int) (w : World) (hsz : s.size ≤ 9223372036854775807) (hl : hs.length ≤ 9223372036854775807) (hA : Cells w w.heap.size A (ints hs)) :
    Calls Try.prog 26 #[.string s, .slice A hs.length c] w (WinAns s.data.toList hs w) := by
  by_cases hok : CodeOk s.data.toList
  · by_cases hr : ∀ x ∈ hs, 0 ≤ x ∧ x ≤ 400
    · obtain ⟨ns, rfl, hns⟩ := nats_of hr
      rw [natsI_len] at hl ⊢
      refine (win_in s A c ns w hsz hl hok hA hns).mono fun e w' ⟨h1, h2⟩ => ⟨h2, .inr ?_⟩
      rcases h1 with ⟨h20, rfl⟩ | ⟨h20, h1⟩
      · exact .inl ⟨hok, fun hh => by have := hh.2; rw [natsI_len] at this; omega, rfl⟩
      · refine .inr ⟨hok, ns, rfl, hns, h20, ?_⟩
        rcases h1 with h1 | ⟨hx, _, hno⟩ | h1
        · exact .inl h1
        · obtain ⟨j, hj, ps, hps, h0⟩ := win_exists _ ns hx
          exact absurd h0 (hno j hj ps hps)
        · exact .inr h1
    · exact (win_no_range s A c hs w hsz hl hok hA hr).mono fun e w' ⟨h1, h2⟩ => ⟨h2, .inr (.inl ⟨hok, fun hh => hr hh.1, h1⟩)⟩
  · exact (win_no_code s A hs.length c w hsz hok).mono fun e w' ⟨h1, h2⟩ => ⟨h2, .inl ⟨hok, h1⟩⟩
end Go.Proofs.Ytfoehijlafooaaa
