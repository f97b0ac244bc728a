/- a solver's memory -/
import Derived.Test.YtfoehijlafooaaaDoorPzStuck
namespace Go.Proofs.YtfoehijlafooaaaDoor
open Go.RowKit

/-- rows of ints that a call has made, none of them below the base -/
def OutAt (w : World) (base : Nat) (v : Value) (rows : List (List Int)) : Prop :=
  ∃ vs : List Value, w.ownsRow base 22 1 v rows.length vs ∧ ∀ k (h : k < rows.length), ∃ Ak ck, rows[k].length ≤ ck ∧ vs[k]? = some (.slice Ak rows[k].length ck) ∧
    Cells w w.heap.size Ak (ints rows[k]) ∧ (0 < rows[k].length → ∀ a, Ak = some a → base ≤ a.block ∧ v.ownBlock ≠ some a.block)

section
variable {w w' : World} {base : Nat} {v : Value} {rows : List (List Int)}
theorem OutAt.nil_ (w : World) (base : Nat) : OutAt w base (.slice none 0 0) [] := ⟨[], World.ownsRow_nil _ _ _ _, fun k h => by simp at h⟩
theorem OutAt.only {S : Nat → Prop} (h : OutAt w base v rows) (hb : Only S w w') (hS : ∀ k, base ≤ k → k < w.heap.size → ¬ S k) : OutAt w' base v rows := by
  obtain ⟨vs, hown, hr⟩ := h
  refine ⟨vs, ownsRow_only hown hb (fun g hg => hS g (hown.lt g hg).1 (hown.lt g hg).2), fun k hk => ?_⟩
  obtain ⟨Ak, ck, hle, hv, hc, hne⟩ := hr k hk
  refine ⟨Ak, ck, hle, hv, hc.only hb (fun hn a ha hSa => ?_), hne⟩
  have hn' : 0 < rows[k].length := by simpa using hn
  obtain ⟨b, off, e, hlt, _⟩ := hc hn
  have hba := (hne hn' a ha).1
  rw [e] at ha
  injection ha with ha
  subst ha
  exact hS _ hba hlt hSa
theorem OutAt.drewN (h : OutAt w base v rows) (n : Nat) : OutAt (w.drewN n) base v rows := h
theorem OutAt.push {v' : Value} {A : Option Addr} {c : Nat} {r : List Int} (hrc : r.length ≤ c)
    (hA : Cells w w.heap.size A (ints r)) (hAne : 0 < r.length → ∀ a, A = some a → base ≤ a.block ∧ v.ownBlock ≠ some a.block)
    {vs : List Value} (hvs : w.ownsRow base 22 1 v rows.length vs) (hr : ∀ k (h : k < rows.length), ∃ Ak ck, rows[k].length ≤ ck ∧ vs[k]? = some (.slice Ak rows[k].length ck) ∧
      Cells w w.heap.size Ak (ints rows[k]) ∧ (0 < rows[k].length → ∀ a, Ak = some a → base ≤ a.block ∧ v.ownBlock ≠ some a.block))
    (hown : w'.ownsRow base 22 1 v' (rows.length + 1) (vs ++ [.slice A r.length c])) (hO : Only (fun k => v.ownBlock = some k) w w') (hwhere : v'.ownBlock = v.ownBlock ∨ ∃ g, v'.ownBlock = some g ∧ w.heap.size ≤ g) :
    OutAt w' base v' (rows ++ [r]) := by
  have hvl : vs.length = rows.length := by have := hvs.1; omega
  refine ⟨_, by rw [List.length_append]; exact hown, fun k hk => ?_⟩
  have key : ∀ (A : Option Addr) (l : List Int), Cells w w.heap.size A (ints l) → (0 < l.length → ∀ a, A = some a → base ≤ a.block ∧ v.ownBlock ≠ some a.block) →
      Cells w' w'.heap.size A (ints l) ∧ (0 < l.length → ∀ a, A = some a → base ≤ a.block ∧ v'.ownBlock ≠ some a.block) := by
    intro A l hc hne
    refine ⟨hc.only hO (fun hn a ha => (hne (by simpa using hn) a ha).2), fun hn a ha => ?_⟩
    obtain ⟨b, off, e, hlt, _⟩ := hc (by simpa using hn)
    rw [e] at ha
    injection ha with ha
    subst ha
    refine ⟨(hne hn _ e).1, ?_⟩
    rcases hwhere with hw | ⟨g, hw, hge⟩
    · rw [hw]; exact (hne hn _ e).2
    · rw [hw]; intro he; injection he with he; simp only at he; omega
  rw [List.length_append] at hk
  simp only [List.length_cons, List.length_nil] at hk
  by_cases hlast : k < rows.length
  · obtain ⟨Ak, ck, hle, hv, hc, hne⟩ := hr k hlast
    obtain ⟨k1, k2⟩ := key Ak _ hc hne
    refine ⟨Ak, ck, ?_, ?_, ?_, ?_⟩
    · rw [List.getElem_append_left hlast]; exact hle
    · rw [List.getElem?_append_left (by omega), List.getElem_append_left hlast]; exact hv
    · rw [List.getElem_append_left hlast]; exact k1
    · rw [List.getElem_append_left hlast]; exact k2
  · have hke : k = rows.length := by omega
    subst hke
    obtain ⟨k1, k2⟩ := key A r hA hAne
    refine ⟨A, c, ?_, ?_, ?_, ?_⟩
    · simp; exact hrc
    · rw [List.getElem?_append_right (by omega), hvl]; simp
    · simp; exact k1
    · simp; exact k2
theorem OutAt.rows2 (h : OutAt w base v rows) : ∃ A c, v = .slice A rows.length c ∧ rows.length ≤ c ∧ Rows2 w w.heap.size A rows := by
  obtain ⟨vs, hown, hr⟩ := h
  obtain ⟨A, c, hv, hle, hl, hc⟩ := Cells.of_own hown
  exact ⟨A, c, hv, hle, vs, by omega, hc, fun k hk => by
    obtain ⟨Ak, ck, h1, h2, h3, _⟩ := hr k hk
    exact ⟨Ak, ck, h1, h2, h3⟩⟩
theorem tab_only {S : Nat → Prop} {g : Nat} {tab : List Nat} (h : TabAt g tab w) (hb : Only S w w') (hg : ¬ S g) : TabAt g tab w' := fun j hj => by
  have h1 := h j hj
  have hlt := World.block_lt_of_cell? w _ h1
  rw [← h1]
  exact World.cell?_of_block (hb.block g hlt hg)
end

/-- where a solver's blocks lie -/
structure SolG (G : SolB) (b2 : Nat) : Prop where
  s1 : 1 < G.gs
  c1 : 1 < G.gc
  r1 : 1 < G.gr
  k1 : 1 < G.gk
  b1 : 1 < G.gb
  s2 : G.gs < b2
  c2 : G.gc < b2
  r2 : G.gr < b2
  k2 : G.gk < b2
  bb : G.gb < b2
  rk : G.gr ≠ G.gk
  rb : G.gr ≠ G.gb
  kb : G.gk ≠ G.gb
  sc : G.gs ≠ G.gc
  rc : G.gr ≠ G.gc
  kc : G.gk ≠ G.gc
  bc : G.gb ≠ G.gc
  sr : G.gs ≠ G.gr
  sk : G.gs ≠ G.gk
  sb : G.gs ≠ G.gb
structure SolW (w : World) (G : SolB) (b2 r k cap most : Nat) (now : List Int) (R K B : Nat → Nat) (v : Value) (rows : List (List Int)) : Prop where
  a : SolA w G r k cap most R K B v
  c : CellsG w G.gc now
  o : OutAt w b2 v rows
  t : TabAt 1 Lib.deBruijn64tab w
  z : b2 ≤ w.heap.size
def SolS (G : SolB) (b2 : Nat) : Nat → Prop := fun b => b = G.gs ∨ b = G.gc ∨ b = G.gr ∨ b = G.gk ∨ b = G.gb ∨ b2 ≤ b

section
variable {w w' : World} {G : SolB} {b2 r k cap most : Nat} {now : List Int} {R K B R' K' B' : Nat → Nat} {v : Value} {rows : List (List Int)}
theorem SolW.drewN (h : SolW w G b2 r k cap most now R K B v rows) (n : Nat) : SolW (w.drewN n) G b2 r k cap most now R K B v rows := ⟨h.a.drewN n, h.c, h.o, h.t, h.z⟩
theorem SolW.cell (h : SolW w G b2 r k cap most now R K B v rows) (hG : SolG G b2) {i : Nat} (hi : i < now.length) (x : Int) : SolW (w.setCell ⟨G.gc, i, none⟩ (.int .i64 x)) G b2 r k cap most (now.set i x) R K B v rows := by
  have hO : Only (fun b => b = G.gc) w (w.setCell ⟨G.gc, i, none⟩ (.int .i64 x)) := (Only.refl (fun b => b = G.gc) w).setCell (p := ⟨G.gc, i, none⟩) (.inl rfl) _
  exact ⟨h.a.only hO hG.sc hG.rc hG.kc hG.bc, h.c.set_ hi x, h.o.only hO (fun k hk _ e => by have := hG.c2; omega), tab_only h.t hO (fun e => by have := hG.c1; omega), Nat.le_trans h.z hO.size⟩
theorem SolW.flip (h : SolW w G b2 r k cap most now R K B v rows) (hG : SolG G b2) (ha : SolA w' G r k cap most R' K' B' v) (hO : Only (fun b => b = G.gr ∨ b = G.gk ∨ b = G.gb) w w') : SolW w' G b2 r k cap most now R' K' B' v rows := by
  refine ⟨ha, h.c.only hO ?_, h.o.only hO ?_, tab_only h.t hO ?_, Nat.le_trans h.z hO.size⟩
  · rintro (e | e | e)
    · exact hG.rc e.symm
    · exact hG.kc e.symm
    · exact hG.bc e.symm
  · rintro k hk _ (e | e | e)
    · have := hG.r2; omega
    · have := hG.k2; omega
    · have := hG.bb; omega
  · rintro (e | e | e)
    · have := hG.r1; omega
    · have := hG.k1; omega
    · have := hG.b1; omega
end
end Go.Proofs.YtfoehijlafooaaaDoor
