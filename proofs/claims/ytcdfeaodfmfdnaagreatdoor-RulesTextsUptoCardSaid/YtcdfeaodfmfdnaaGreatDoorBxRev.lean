/- slices.Reverse at a row of texts of the call's own; strings.Join of it without a separator. -/
import Derived.Test.YtcdfeaodfmfdnaaGreatDoorBxRows
import Derived.Test.YtcdfeaodfmfdnaaGreatDoorBxShelf
namespace Go.Proofs.YtcdfeaodfmfdnaaGreatDoor
open Go.RowKit Go.Shelf

theorem only_setCells {S : Nat → Prop} {W : World} {g : Nat} (hg : S g) : ∀ (vs : List Value) (o : Nat) (w : World), Only S W w → Only S W (w.setCells g o vs)
  | [], _, _, h => h
  | v :: r, o, _, h => only_setCells hg r (o + 1) _ (h.setCell (p := ⟨g, o, none⟩) (.inl hg) v)
theorem row_parts {w : World} {base n : Nat} {e : TypeId} {v : Value} {xs : List Value} (h : w.ownsRow base e 1 v n xs) (hn : 0 < n) :
    ∃ g c, v = .slice (some ⟨g, 0, none⟩) n c ∧ base ≤ g ∧ n ≤ c ∧ g < w.heap.size ∧ (∀ i (hi : i < xs.length), w.cell? ⟨g, i, none⟩ = some xs[i]) ∧ ∀ i, w.frozen? ⟨g, i, none⟩ = false := by
  obtain ⟨hl, h2⟩ := h
  rcases h2 with ⟨rfl, h0⟩ | ⟨g, cap, cur, rfl, hbg, hg, hnc, hcm, hcs, htake⟩
  · omega
  · refine ⟨g, cap, rfl, hbg, hnc, (Array.getElem?_eq_some_iff.1 hg).1, fun i hi => ?_, fun i => by simp [World.frozen?, hg]⟩
    have hcell : w.cell? ⟨g, i, none⟩ = cur[i]? := by simp [World.cell?, hg]
    rw [hcell]
    simp only [← htake]
    simp
theorem rev_any (base g c : Nat) (l : List (List UInt8)) (w : World) (h : w.ownsRow base 9 1 (.slice (some ⟨g, 0, none⟩) l.length c) l.length (l.map strV)) (hn : 0 < l.length) (h8 : l.length ≤ 8) :
    Calls Tryz.prog 154 #[.slice (some ⟨g, 0, none⟩) l.length c] w fun e w' => e = .returned (.tuple #[]) ∧ Only (fun x => x = g) w w' ∧ ∀ i (hi : i < l.length), w'.cell? ⟨g, i, none⟩ = some (strV (l.reverse[i]'(by simpa using hi))) := by
  obtain ⟨g', c', hv, hbg, hnc, hlt, hcell, hfr⟩ := row_parts h hn
  injection hv with hv _ hc
  injection hv with hv
  injection hv with hv
  subst hv
  refine (Tryz.slices_Reverse_string_cells g 0 l.length c (fun i => bytes (l.getD i [])) w (by omega) (fun i hi => ?_) (fun j hj => by rw [Nat.zero_add]; exact hfr j)).mono ?_
  · have := hcell i (by simpa using hi)
    rw [Nat.zero_add, this]
    simp [strV, List.getD_eq_getElem?_getD, hi]
  · rintro e w' ⟨he, q, hw⟩
    have hs : Go.Lib.strsOf (fun i => bytes (l.getD i [])) l.length = l := by
      unfold Go.Lib.strsOf
      apply List.ext_getElem
      · simp
      · intro i h1 h2
        simp [bytes, List.getD_eq_getElem?_getD, h2]
    rw [hs] at hw
    subst hw
    refine ⟨he, only_setCells (S := fun x => x = g) rfl _ _ _ ((Only.refl (fun x => x = g) w).drewN q), fun i hi => ?_⟩
    have h1 := World.cell?_setCells_in g (l.reverse.map encStr) 0 (w.drewN q) (fun j hj => by
      have := hcell j (by simpa using hj)
      rw [Nat.zero_add, World.cell?_drewN, this]
      rfl) i (by simpa using hi)
    rw [Nat.zero_add] at h1
    rw [h1]
    simp [strV, bytes, encStr]
theorem join_flat : ∀ (l : List (List UInt8)), Go.Lib.join l [] = l.flatten := by
  intro l
  unfold Go.Lib.join
  induction l with
  | nil => rfl
  | cons a l ih =>
    cases l with
    | nil => simp
    | cons b l => simp_all
theorem flat_len : ∀ {l : List (List UInt8)} {w : Nat}, (∀ a ∈ l, a.length = w) → l.flatten.length = l.length * w
  | [], _, _ => by simp
  | a :: l, w, h => by
    rw [List.flatten_cons, List.length_append, h a List.mem_cons_self, flat_len (fun x hx => h x (List.mem_cons_of_mem _ hx)), List.length_cons, Nat.add_mul, Nat.one_mul, Nat.add_comm]
theorem join_any (g n c : Nat) (l : List (List UInt8)) (w : World) (hn : l.length = n) (hc : n ≤ c) (hcell : ∀ i (hi : i < l.length), w.cell? ⟨g, i, none⟩ = some (strV l[i])) (hg : g < w.heap.size) (h8 : l.length ≤ 8) (hl : ∀ a ∈ l, a.length ≤ 8) :
    Calls Tryz.prog 32 #[.slice (some ⟨g, 0, none⟩) n c, .string ⟨#[]⟩] w fun e w' => e = .returned (.string (bytes l.flatten)) ∧ Below w.heap.size w w' := by
  subst hn
  have hmap : (l.map bytes).map (fun x : ByteArray => x.data.toList) = l := by
    rw [List.map_map]
    conv => rhs; rw [← List.map_id l]
    refine List.map_congr_left (fun x _ => ?_)
    simp [bytes]
  have hflat : l.flatten.length ≤ 64 := by
    have : ∀ (m : List (List UInt8)), (∀ a ∈ m, a.length ≤ 8) → m.flatten.length ≤ m.length * 8 := by
      intro m
      induction m with
      | nil => simp
      | cons a m ih =>
        intro h
        have h1 := h a List.mem_cons_self
        have h2 := ih (fun x hx => h x (List.mem_cons_of_mem _ hx))
        rw [List.flatten_cons, List.length_append, List.length_cons, Nat.add_mul]
        omega
    have := this l hl
    omega
  have hj := Tryz.strings_Join g 0 c (l.map bytes) ⟨#[]⟩ w (fun j x hx => by
    rw [List.getElem?_map] at hx
    obtain ⟨a, ha, rfl⟩ := Option.map_eq_some_iff.1 hx
    obtain ⟨h1, h2⟩ := List.getElem?_eq_some_iff.1 ha
    rw [Nat.zero_add, hcell j h1, h2]
    rfl) hg (by simp; omega) (by simpa using hc) (by rw [hmap, show (⟨#[]⟩ : ByteArray).data.toList = [] from rfl, join_flat]; omega)
  rw [List.length_map, hmap, show (⟨#[]⟩ : ByteArray).data.toList = [] from rfl, join_flat] at hj
  exact hj.mono fun e w' ⟨h1, h2⟩ => ⟨h1, h2⟩
end Go.Proofs.YtcdfeaodfmfdnaaGreatDoor
