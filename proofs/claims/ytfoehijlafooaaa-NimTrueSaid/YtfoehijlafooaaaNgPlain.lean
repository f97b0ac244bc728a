/- for gamelaw.NimGrundy: Grundy and Win, case by case -/
import Derived.Test.YtfoehijlafooaaaNimWin
import Derived.Test.YtfoehijlafooaaaNimGrundyF
import Derived.Test.YtfoehijlafooaaaNimTakings
namespace Go.Proofs.Ytfoehijlafooaaa
open Go.RowKit

theorem grundy_out (s : ByteArray) (n : Int) (w : World) (hsz : s.size ≤ 9223372036854775807) (hok : CodeOk s.data.toList) (hn : ¬ (0 ≤ n ∧ n ≤ 400)) :
    Calls Try.prog 25 #[.string s, .int .i64 n] w fun e w' => e = .returned (.tuple #[.slice none 0 0, .int .i64 4]) ∧ Below w.heap.size w w' := by
  refine (grundy_any s n w hsz).mono ?_
  rintro e w' ⟨hb, ⟨h, _⟩ | ⟨_, _, h⟩ | ⟨_, m, h1, h2, _⟩⟩
  · exact absurd hok h
  · exact ⟨h, hb⟩
  · exact absurd ⟨by omega, by omega⟩ hn

theorem grundy_in (s : ByteArray) (n : Nat) (w : World) (hsz : s.size ≤ 9223372036854775807) (hok : CodeOk s.data.toList) (hn : n ≤ 400) :
    Calls Try.prog 25 #[.string s, .int .i64 n] w fun e w' => Below w.heap.size w w' ∧ ∃ A c, e = .returned (.tuple #[.slice A (n + 1) c, .int .i64 0]) ∧ Cells w' w'.heap.size A (ints (gInts (digsOf s.data.toList) (n + 1))) := by
  refine (grundy_any s n w hsz).mono ?_
  rintro e w' ⟨hb, ⟨h, _⟩ | ⟨_, h, _⟩ | ⟨_, m, h1, h2, h3⟩⟩
  · exact absurd hok h
  · exact absurd ⟨by omega, by omega⟩ h
  · have : n = m := by omega
    subst this
    exact ⟨hb, h3⟩

theorem win_bad (s : ByteArray) (A : Option Addr) (c : Nat) (hs : List Int) (w : World) (hsz : s.size ≤ 9223372036854775807) (hl : hs.length ≤ 9223372036854775807) (hok : CodeOk s.data.toList) (hA : Cells w w.heap.size A (ints hs)) (hH : ¬ HOk hs) :
    Calls Try.prog 26 #[.string s, .slice A hs.length c] w fun e w' => e = .returned (.tuple #[.bool false, .agg #[.int .i64 0, .slice none 0 0], .int .i64 4]) ∧ Below w.heap.size w w' := by
  refine (win_any s A c hs w hsz hl hA).mono ?_
  rintro e w' ⟨hb, ⟨h, _⟩ | ⟨_, _, h⟩ | ⟨_, ns, rfl, h2, h3, _⟩⟩
  · exact absurd hok h
  · exact ⟨h, hb⟩
  · refine absurd ⟨fun x hx => ?_, by rw [natsI_len]; exact h3⟩ hH
    obtain ⟨y, hy, rfl⟩ := List.mem_map.1 hx
    have := h2 y hy
    simp; omega

theorem natsI_inj {a b : List Nat} (h : natsI a = natsI b) : a = b := by
  have h2 : (natsI a).map Int.toNat = (natsI b).map Int.toNat := by rw [h]
  simpa [natsI, Function.comp_def] using h2

theorem good_hok {ns : List Nat} (hns : ∀ x ∈ ns, x ≤ 400) (h20 : ns.length ≤ 20) : HOk (natsI ns) := ⟨fun x hx => by
    obtain ⟨y, hy, rfl⟩ := List.mem_map.1 hx
    have := hns y hy
    simp; omega, by rw [natsI_len]; exact h20⟩

theorem win_even (s : ByteArray) (A : Option Addr) (c : Nat) (ns : List Nat) (w : World) (hsz : s.size ≤ 9223372036854775807) (hl : ns.length ≤ 9223372036854775807) (hok : CodeOk s.data.toList) (hA : Cells w w.heap.size A (ints (natsI ns)))
    (hns : ∀ x ∈ ns, x ≤ 400) (h20 : ns.length ≤ 20) (hX : xorP (gv (digsOf s.data.toList)) ns = 0) :
    Calls Try.prog 26 #[.string s, .slice A ns.length c] w fun e w' => e = .returned (.tuple #[.bool false, .agg #[.int .i64 0, .slice none 0 0], .int .i64 0]) ∧ Below w.heap.size w w' := by
  have h := win_any s A c (natsI ns) w hsz (by rw [natsI_len]; exact hl) hA
  rw [natsI_len] at h
  refine h.mono ?_
  rintro e w' ⟨hb, ⟨h, _⟩ | ⟨_, h, _⟩ | ⟨_, ns', he, _, _, ⟨_, h⟩ | ⟨h, _⟩⟩⟩
  · exact absurd hok h
  · exact absurd (good_hok hns h20) h
  · exact ⟨h, hb⟩
  · rw [← natsI_inj he] at h; exact absurd hX h

theorem win_odd (s : ByteArray) (A : Option Addr) (c : Nat) (ns : List Nat) (w : World) (hsz : s.size ≤ 9223372036854775807) (hl : ns.length ≤ 9223372036854775807) (hok : CodeOk s.data.toList) (hA : Cells w w.heap.size A (ints (natsI ns)))
    (hns : ∀ x ∈ ns, x ≤ 400) (h20 : ns.length ≤ 20) (hX : xorP (gv (digsOf s.data.toList)) ns ≠ 0) :
    Calls Try.prog 26 #[.string s, .slice A ns.length c] w fun e w' => Below w.heap.size w w' ∧ ∃ (i : Nat) (hi : i < ns.length) (dn : List (List Nat)) (ps : List Nat) (A : Option Addr) (c : Nat),
      e = .returned (.tuple #[.bool true, .agg #[.int .i64 i, .slice A ps.length c], .int .i64 0]) ∧ ps.length ≤ c ∧ Cells w' w'.heap.size A (ints (natsI ps)) ∧ dn ++ [ps] <+: opts (digsOf s.data.toList) ns[i] ∧
      xorP (gv (digsOf s.data.toList)) ns ^^^ gv (digsOf s.data.toList) ns[i] ^^^ xorP (gv (digsOf s.data.toList)) ps = 0 ∧ (∀ ps' ∈ dn, xorP (gv (digsOf s.data.toList)) ns ^^^ gv (digsOf s.data.toList) ns[i] ^^^ xorP (gv (digsOf s.data.toList)) ps' ≠ 0) ∧
      ∀ j (h : j < i), ∀ ps' ∈ opts (digsOf s.data.toList) ns[j], xorP (gv (digsOf s.data.toList)) ns ^^^ gv (digsOf s.data.toList) ns[j] ^^^ xorP (gv (digsOf s.data.toList)) ps' ≠ 0 := by
  have h := win_any s A c (natsI ns) w hsz (by rw [natsI_len]; exact hl) hA
  rw [natsI_len] at h
  refine h.mono ?_
  rintro e w' ⟨hb, ⟨h, _⟩ | ⟨_, h, _⟩ | ⟨_, ns', he, _, _, ⟨h, _⟩ | ⟨_, h⟩⟩⟩
  · exact absurd hok h
  · exact absurd (good_hok hns h20) h
  · rw [← natsI_inj he] at h; exact absurd h hX
  · have := natsI_inj he
    subst this
    exact ⟨hb, h⟩

theorem rows_at {w : World} {B : Nat} {A : Option Addr} {l : List (List Nat)} (h : Rows2 w B A (optRows l)) {q : Nat} (hq : q < l.length) :
    ∃ b off, A = some ⟨b, off, none⟩ ∧ ∃ Ak ck, l[q].length ≤ ck ∧ w.cell? ⟨b, off + q, none⟩ = some (.slice Ak l[q].length ck) ∧ Cells w B Ak (ints (natsI l[q])) := by
  obtain ⟨b, off, hA, _, Ak, ck, h1, h2, h3⟩ := h.at_ (k := q) (by simpa [optRows] using hq)
  have e : (optRows l)[q]'(by simpa [optRows] using hq) = natsI l[q] := by simp [optRows]
  rw [e] at h1 h2 h3
  rw [natsI_len] at h1 h2
  exact ⟨b, off, hA, Ak, ck, h1, h2, h3⟩

theorem first_same {D ns : List Nat} {X i : Nat} {hi : i < ns.length} {dn : List (List Nat)} {ps : List Nat} (hpre : dn ++ [ps] <+: opts D ns[i]) (hz : X ^^^ gv D ns[i] ^^^ xorP (gv D) ps = 0)
    (hn : ∀ ps' ∈ dn, X ^^^ gv D ns[i] ^^^ xorP (gv D) ps' ≠ 0) (hlow4 : ∀ j (h : j < i), ∀ ps' ∈ opts D ns[j], X ^^^ gv D ns[j] ^^^ xorP (gv D) ps' ≠ 0)
    {k q : Nat} (hk : k < ns.length) (hq : q < (opts D ns[k]).length) (h0 : X ^^^ gv D ns[k] ^^^ xorP (gv D) (opts D ns[k])[q] = 0)
    (hlow : ∀ j (_ : j < k) (h2 : j < ns.length), ∀ ps' ∈ opts D ns[j], X ^^^ gv D ns[j] ^^^ xorP (gv D) ps' ≠ 0)
    (hq' : ∀ r (_ : r < q) (h2 : r < (opts D ns[k]).length), X ^^^ gv D ns[k] ^^^ xorP (gv D) (opts D ns[k])[r] ≠ 0) : k = i ∧ (opts D ns[k])[q] = ps := by
  have hki : k = i := by
    rcases Nat.lt_trichotomy k i with h | h | h
    · exact absurd h0 (hlow4 k h _ (List.getElem_mem _))
    · exact h
    · exact absurd hz (hlow i h hi ps (hpre.subset (by simp)))
  subst hki
  refine ⟨rfl, ?_⟩
  obtain ⟨t, ht⟩ := hpre
  have hg : ∀ r (hr : r < (opts D ns[k]).length), (dn ++ ([ps] ++ t))[r]? = some (opts D ns[k])[r] := fun r hr => by
    rw [← List.append_assoc, ht]; exact List.getElem?_eq_getElem hr
  have hmid : ∀ (hr : dn.length < (opts D ns[k]).length), (opts D ns[k])[dn.length] = ps := fun hr => by
    have := hg _ hr
    rw [List.getElem?_append_right (Nat.le_refl _), Nat.sub_self] at this
    simp at this
    exact this.symm
  rcases Nat.lt_trichotomy q dn.length with h | h | h
  · have h1 := hg q hq
    rw [List.getElem?_append_left h] at h1
    exact absurd h0 (hn _ (List.mem_of_getElem? h1))
  · subst h; exact hmid hq
  · have h1 := hq' dn.length h (by omega)
    rw [hmid (by omega)] at h1
    exact absurd hz h1

theorem first_same_ {D ns : List Nat} {X i : Nat} {hi : i < ns.length} {dn : List (List Nat)} {ps ps' : List Nat} {x V : Nat} {O : List (List Nat)} (hpre : dn ++ [ps] <+: opts D ns[i]) (hz : X ^^^ gv D ns[i] ^^^ xorP (gv D) ps = 0)
    (hn : ∀ ps' ∈ dn, X ^^^ gv D ns[i] ^^^ xorP (gv D) ps' ≠ 0) (hlow4 : ∀ j (h : j < i), ∀ ps' ∈ opts D ns[j], X ^^^ gv D ns[j] ^^^ xorP (gv D) ps' ≠ 0)
    {k q : Nat} (hk : k < ns.length) (hx : ns[k] = x) (hO : opts D x = O) (hV : X ^^^ gv D x = V) (hq : q < O.length) (hp : O[q] = ps') (h0 : V ^^^ xorP (gv D) ps' = 0)
    (hlow : ∀ j (_ : j < k) (h2 : j < ns.length), ∀ ps' ∈ opts D ns[j], X ^^^ gv D ns[j] ^^^ xorP (gv D) ps' ≠ 0)
    (hq' : ∀ r (_ : r < q) (h2 : r < O.length), V ^^^ xorP (gv D) O[r] ≠ 0) : k = i ∧ ps' = ps := by
  subst hx hO hV hp
  exact first_same hpre hz hn hlow4 hk hq h0 hlow hq'
end Go.Proofs.Ytfoehijlafooaaa
