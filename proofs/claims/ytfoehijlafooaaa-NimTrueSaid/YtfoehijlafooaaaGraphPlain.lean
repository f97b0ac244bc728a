/- Values of a game on a graph: plain. Both ways to reckon them come to one answer. -/
import Derived.Test.YtfoehijlafooaaaMexPlain
namespace Go.Proofs.Ytfoehijlafooaaa

def upd {α : Type} (f : Nat → α) (i : Nat) (v : α) : Nat → α := fun j => if j = i then v else f j
theorem upd_same {α : Type} (f : Nat → α) (i : Nat) (v : α) : upd f i v i = v := by simp [upd]
theorem upd_other {α : Type} (f : Nat → α) {i j : Nat} (v : α) (h : j ≠ i) : upd f i v j = f j := by simp [upd, h]

inductive RP (nx : Nat → List Nat) : Nat → Nat → Prop
  | one {a b : Nat} (h : b ∈ nx a) : RP nx a b
  | more {a b c : Nat} (h : RP nx a b) (h' : c ∈ nx b) : RP nx a c

def Acyc (n : Nat) (nx : Nat → List Nat) : Prop := ∃ rank : Nat → Nat, ∀ j, j < n → ∀ k ∈ nx j, rank k < rank j
def Inside (n : Nat) (nx : Nat → List Nat) : Prop := ∀ j, j < n → ∀ k ∈ nx j, k < n
def Solved (n : Nat) (nx : Nat → List Nat) (O : Nat → Int) : Prop := ∀ j, j < n → O j = (mexS ((nx j).map O) : Int)
def Good (n : Nat) (nx : Nat → List Nat) (S O : Nat → Int) : Prop :=
  ∃ rank : Nat → Nat, ∀ j, j < n → S j = 2 → (∀ k ∈ nx j, S k = 2 ∧ rank k < rank j) ∧ O j = (mexS ((nx j).map O) : Int)

theorem cyc_not {n : Nat} {nx : Nat → List Nat} (hin : Inside n nx) {j : Nat} (hj : j < n) (h : RP nx j j) : ¬ Acyc n nx := by
  rintro ⟨rank, hr⟩
  have key : ∀ a b, RP nx a b → a < n → b < n ∧ rank b < rank a := by
    intro a b hab
    induction hab with
    | one h => exact fun ha => ⟨hin _ ha _ h, hr _ ha _ h⟩
    | more _ h' ih =>
        intro ha
        obtain ⟨h1, h2⟩ := ih ha
        have := hr _ h1 _ h'
        exact ⟨hin _ h1 _ h', by omega⟩
  have := (key j j h hj).2
  omega

theorem stuck_not {n : Nat} {nx : Nat → List Nat} (hin : Inside n nx) {K : Nat → Bool} (hs : ∀ j, j < n → K j = false → ∃ k ∈ nx j, K k = false) {j : Nat} (hj : j < n) (hK : K j = false) : ¬ Acyc n nx := by
  rintro ⟨rank, hr⟩
  have key : ∀ r a, rank a ≤ r → a < n → K a = false → False := by
    intro r
    induction r with
    | zero => intro a ha hn hk; obtain ⟨k, hk1, _⟩ := hs a hn hk; have := hr a hn k hk1; omega
    | succ r ih => intro a ha hn hk; obtain ⟨k, hk1, hk2⟩ := hs a hn hk; have := hr a hn k hk1; exact ih k (by omega) (hin a hn k hk1) hk2
  exact key _ j (Nat.le_refl _) hj hK

theorem solved_uniq {n : Nat} {nx : Nat → List Nat} (hin : Inside n nx) (ha : Acyc n nx) {O O' : Nat → Int} (h : Solved n nx O) (h' : Solved n nx O') : ∀ j, j < n → O j = O' j := by
  obtain ⟨rank, hr⟩ := ha
  have key : ∀ r a, rank a < r → a < n → O a = O' a := by
    intro r
    induction r with
    | zero => intro a ha; omega
    | succ r ih =>
      intro a ha hn
      rw [h a hn, h' a hn]
      have : (nx a).map O = (nx a).map O' := List.map_congr_left fun k hk => ih k (by have := hr a hn k hk; omega) (hin a hn k hk)
      rw [this]
  exact fun j hj => key _ j (Nat.lt_succ_self _) hj

theorem Good.all {n : Nat} {nx : Nat → List Nat} {S O : Nat → Int} (h : Good n nx S O) (hall : ∀ j, j < n → S j = 2) : Acyc n nx ∧ Solved n nx O := by
  obtain ⟨rank, hr⟩ := h
  exact ⟨⟨rank, fun j hj k hk => ((hr j hj (hall j hj)).1 k hk).2⟩, fun j hj => (hr j hj (hall j hj)).2⟩

theorem Good.none_ {n : Nat} {nx : Nat → List Nat} {S O : Nat → Int} (h : ∀ j, j < n → S j ≠ 2) : Good n nx S O := ⟨fun _ => 0, fun j hj h2 => absurd h2 (h j hj)⟩

theorem Good.mark {n : Nat} {nx : Nat → List Nat} {S O : Nat → Int} (h : Good n nx S O) {i : Nat} (hi : S i = 0) : Good n nx (upd S i 1) O := by
  obtain ⟨rank, hr⟩ := h
  refine ⟨rank, fun j hj h2 => ?_⟩
  have hji : j ≠ i := by rintro rfl; rw [upd_same] at h2; omega
  rw [upd_other _ _ hji] at h2
  obtain ⟨h3, h4⟩ := hr j hj h2
  refine ⟨fun k hk => ?_, h4⟩
  obtain ⟨h5, h6⟩ := h3 k hk
  have hki : k ≠ i := by rintro rfl; omega
  exact ⟨by rw [upd_other _ _ hki]; exact h5, h6⟩

theorem le_foldr_max (rank : Nat → Nat) (l : List Nat) : ∀ k ∈ l, rank k ≤ (l.map rank).foldr max 0 := by
  induction l with
  | nil => intro k hk; cases hk
  | cons a l ih =>
    intro k hk
    simp only [List.map_cons, List.foldr_cons]
    rcases List.mem_cons.1 hk with rfl | hk
    · omega
    · have := ih k hk; omega

theorem Good.finish {n : Nat} {nx : Nat → List Nat} {S O : Nat → Int} (h : Good n nx S O) {i : Nat} (hi : S i ≠ 2) (hk : ∀ k ∈ nx i, S k = 2) :
    Good n nx (upd S i 2) (upd O i (mexS ((nx i).map O) : Int)) := by
  obtain ⟨rank, hr⟩ := h
  have hmap : ∀ l : List Nat, (∀ k ∈ l, S k = 2) → l.map (upd O i (mexS ((nx i).map O) : Int)) = l.map O := fun l hl =>
    List.map_congr_left fun k hkl => upd_other _ _ (by rintro rfl; exact hi (hl k hkl))
  refine ⟨upd rank i (1 + ((nx i).map rank).foldr max 0), fun j hj h2 => ?_⟩
  by_cases hji : j = i
  · subst hji
    refine ⟨fun k hkj => ?_, ?_⟩
    · have hkne : k ≠ j := by rintro rfl; exact hi (hk k hkj)
      rw [upd_other _ _ hkne, upd_other _ _ hkne, upd_same]
      have := le_foldr_max rank (nx j) k hkj
      exact ⟨hk k hkj, by omega⟩
    · rw [upd_same, hmap _ hk]
  · rw [upd_other _ _ hji] at h2
    obtain ⟨h3, h4⟩ := hr j hj h2
    refine ⟨fun k hkj => ?_, ?_⟩
    · have hkne : k ≠ i := by rintro rfl; exact hi (h3 k hkj).1
      rw [upd_other _ _ hkne, upd_other _ _ hkne, upd_other _ _ hji]
      exact h3 k hkj
    · rw [upd_other _ _ hji, hmap _ (fun k hkj => (h3 k hkj).1)]
      exact h4

/-- how many are not met yet -/
def zeros (S : Nat → Int) : Nat → Nat
  | 0 => 0
  | n + 1 => zeros S n + if S n = 0 then 1 else 0
theorem zeros_mono {S S' : Nat → Int} : ∀ n, (∀ j, j < n → S' j = 0 → S j = 0) → zeros S' n ≤ zeros S n
  | 0, _ => Nat.le_refl _
  | n + 1, h => by
    have h1 := zeros_mono n (fun j hj => h j (by omega))
    simp only [zeros]
    have h2 := h n (by omega)
    split <;> split <;> omega
theorem zeros_less {S : Nat → Int} {i : Nat} {v : Int} (hi : S i = 0) (hv : v ≠ 0) : ∀ n, i < n → zeros (upd S i v) n < zeros S n
  | 0, h => by omega
  | n + 1, h => by
    simp only [zeros]
    by_cases e : i = n
    · subst e
      rw [upd_same, if_pos hi, if_neg hv]
      have := zeros_mono (S := S) (S' := upd S i v) i (fun j hj hz => by rw [upd_other _ _ (by omega)] at hz; exact hz)
      omega
    · have h1 := zeros_less hi hv n (by omega)
      rw [upd_other _ _ (by omega)]
      omega
end Go.Proofs.Ytfoehijlafooaaa
