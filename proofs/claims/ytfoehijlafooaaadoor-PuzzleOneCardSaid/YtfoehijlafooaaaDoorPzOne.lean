/- Puzzles: one answer: the plain law -/
import Derived.Test.YtfoehijlafooaaaDoorPzMake
namespace Go.Proofs.YtfoehijlafooaaaDoor

def Valid (r k : Nat) (s : List Int) : Prop := s.length = r * k * (r * k) ∧ (∀ j, j < s.length → 0 < gat s j ∧ gat s j ≤ (r * k : Nat)) ∧ ∀ i j, i < s.length → j < s.length → i ≠ j → gat s i = gat s j → touch r k i j = false
def Ext (now s : List Int) : Prop := ∀ j, j < now.length → gat now j ≠ 0 → gat s j = gat now j
def NoConf (r k : Nat) (now : List Int) : Prop := ∀ i j, i < now.length → j < now.length → i ≠ j → gat now i ≠ 0 → gat now i = gat now j → touch r k i j = false
def InN (r k : Nat) (now : List Int) : Prop := ∀ j, j < now.length → 0 ≤ gat now j ∧ gat now j ≤ (r * k : Nat)

theorem noConf_of_fits {r k : Nat} {now : List Int} (h : fitsG r k now = true) (hp : InN r k now) : NoConf r k now := by
  intro i j hi hj hne h0 he
  have hf := fitsG_iff.1 h
  have hpi := hp i hi
  rcases Nat.lt_or_gt_of_ne hne with hlt | hlt
  · rw [touch_comm]
    exact hf j hj i hlt (by omega) he.symm
  · exact hf i hi j hlt (by omega) he
theorem fits_of_noConf {r k : Nat} {now : List Int} (h : NoConf r k now) : fitsG r k now = true :=
  fitsG_iff.2 fun i hi j hj h1 h2 => h i j hi (by omega) (by omega) (by omega) h2

theorem inN_set {r k : Nat} {now : List Int} {i : Nat} (hi : i < now.length) (h : InN r k now) {v : Int} (hv : 0 ≤ v ∧ v ≤ (r * k : Nat)) : InN r k (now.set i v) := by
  intro j hj
  rw [gat_set hi]
  split
  · exact hv
  · exact h j (by simpa using hj)
/-- every full square that fits is found -/
theorem sols_complete {r k : Nat} (hn : r * k ≤ 9) {s : List Int} (hs : Valid r k s) : ∀ (m i : Nat) (now : List Int), i + m = now.length → now.length = s.length → InN r k now → (∀ j, j < i → gat now j ≠ 0) → Ext now s → s ∈ sols r k m i now
  | 0, i, now, hm, hl, _, hf, he => by
    simp only [sols, List.mem_singleton]
    exact gat_ext hl.symm (fun j hj => he j (by omega) (hf j (by omega)))
  | m + 1, i, now, hm, hl, hp, hf, he => by
    have hi : i < now.length := by omega
    rw [sols]
    split
    · rename_i h0
      exact sols_complete hn hs m (i + 1) now (by omega) hl hp (fun j hj => by
        by_cases e : j = i
        · subst e; omega
        · exact hf j (by omega)) he
    · rename_i h0
      have hz : gat now i = 0 := by have := hp i hi; omega
      obtain ⟨h1, h2, h3⟩ := hs
      have hsi := h2 i (by omega)
      obtain ⟨c, hc⟩ : ∃ c : Nat, gat s i = (c : Int) + 1 := ⟨(gat s i - 1).toNat, by omega⟩
      rw [List.mem_flatMap]
      refine ⟨c, (mem_nums hn).2 ⟨by omega, fitsAt_iff.2 fun j hj hne hj1 => ?_⟩, ?_⟩
      · have h4 := he j hj (by omega)
        exact h3 i j (by omega) (by omega) (fun e => hne e.symm) (by rw [h4, hc, hj1])
      · refine sols_complete hn ⟨h1, h2, h3⟩ m (i + 1) _ (by rw [List.length_set]; omega) (by rw [List.length_set]; exact hl) (inN_set hi hp (by omega)) (fun j hj => ?_) (fun j hj h5 => ?_)
        · rw [gat_set hi]
          split
          · omega
          · exact hf j (by omega)
        · rw [gat_set hi] at h5 ⊢
          split
          · rename_i e; rw [e, hc]
          · rename_i e; rw [if_neg e] at h5; exact he j (by simpa using hj) h5
/-- what is found keeps what there was -/
theorem sols_ext {r k : Nat} : ∀ (m i : Nat) (now : List Int), i + m = now.length → InN r k now → r * k ≤ 9 → ∀ s ∈ sols r k m i now, Ext now s
  | 0, _, now, _, _, _, s, h => by
    simp only [sols, List.mem_singleton] at h
    subst h
    exact fun _ _ _ => rfl
  | m + 1, i, now, hm, hp, hn, s, h => by
    have hi : i < now.length := by omega
    rw [sols] at h
    split at h
    · exact sols_ext m (i + 1) now (by omega) hp hn s h
    · rename_i h0
      obtain ⟨c, hc, hs⟩ := List.mem_flatMap.1 h
      have hc1 := ((mem_nums hn).1 hc).1
      have hz : gat now i = 0 := by have := hp i hi; omega
      have he := sols_ext m (i + 1) _ (by rw [List.length_set]; omega) (inN_set hi hp (by omega)) hn s hs
      intro j hj h5
      have hji : j ≠ i := fun e => h5 (by rw [e]; exact hz)
      have h6 := he j (by simpa using hj)
      rw [gat_set hi, if_neg hji] at h6
      exact h6 h5
theorem sols_sound {r k : Nat} (hn : r * k ≤ 9) : ∀ (m i : Nat) (now : List Int), i + m = now.length → now.length = r * k * (r * k) → InN r k now → (∀ j, j < i → gat now j ≠ 0) → NoConf r k now → ∀ s ∈ sols r k m i now, Valid r k s
  | 0, i, now, hm, hl, hp, hf, hc, s, h => by
    simp only [sols, List.mem_singleton] at h
    subst h
    refine ⟨hl, fun j hj => ?_, fun a b ha hb hne he => hc a b ha hb hne (hf a (by omega)) he⟩
    have := hp j hj
    have := hf j (by omega)
    omega
  | m + 1, i, now, hm, hl, hp, hf, hc, s, h => by
    have hi : i < now.length := by omega
    rw [sols] at h
    split at h
    · rename_i h0
      exact sols_sound hn m (i + 1) now (by omega) hl hp (fun j hj => by
        by_cases e : j = i
        · subst e; omega
        · exact hf j (by omega)) hc s h
    · rename_i h0
      have hz : gat now i = 0 := by have := hp i hi; omega
      obtain ⟨c, hcm, hs⟩ := List.mem_flatMap.1 h
      obtain ⟨hc1, hc2⟩ := (mem_nums hn).1 hcm
      rw [fitsAt_iff] at hc2
      refine sols_sound hn m (i + 1) _ (by rw [List.length_set]; omega) (by rw [List.length_set]; exact hl) (inN_set hi hp (by omega)) (fun j hj => ?_) (fun a b ha hb hne h1 h2 => ?_) s hs
      · rw [gat_set hi]
        split
        · omega
        · exact hf j (by omega)
      · rw [List.length_set] at ha hb
        rw [gat_set hi] at h1
        rw [gat_set hi, gat_set hi] at h2
        by_cases ea : a = i
        · subst ea
          rw [if_pos rfl, if_neg (fun e => hne e.symm)] at h2
          exact hc2 b hb (fun e => hne e.symm) h2.symm
        · by_cases eb : b = i
          · subst eb
            rw [if_neg ea, if_pos rfl] at h2
            rw [touch_comm]
            exact hc2 a ha ea h2
          · rw [if_neg ea] at h1 h2
            rw [if_neg eb] at h2
            exact hc a b ha hb hne h1 h2
theorem nums_nodup {r k : Nat} {now : List Int} {i : Nat} : (nums r k now i).Pairwise (· ≠ ·) := by
  unfold nums
  exact List.Pairwise.filter _ List.nodup_range
theorem sols_nodup {r k : Nat} (hn : r * k ≤ 9) : ∀ (m i : Nat) (now : List Int), i + m = now.length → InN r k now → (sols r k m i now).Pairwise (· ≠ ·)
  | 0, _, now, _, _ => by simp [sols]
  | m + 1, i, now, hm, hp => by
    have hi : i < now.length := by omega
    rw [sols]
    split
    · exact sols_nodup hn m (i + 1) now (by omega) hp
    · have hset : ∀ c ∈ nums r k now i, InN r k (now.set i ((c : Int) + 1)) := fun c hc => inN_set hi hp (by have := ((mem_nums hn).1 hc).1; omega)
      rw [List.pairwise_flatMap]
      refine ⟨fun c hc => sols_nodup hn m (i + 1) _ (by rw [List.length_set]; omega) (hset c hc), nums_nodup.imp_of_mem fun {a b} ha hb hne x hx y hy e => ?_⟩
      subst e
      have h1 := sols_ext m (i + 1) _ (by rw [List.length_set]; omega) (hset a ha) hn x hx i (by simpa using hi) (by rw [gat_set hi, if_pos rfl]; omega)
      have h2 := sols_ext m (i + 1) _ (by rw [List.length_set]; omega) (hset b hb) hn x hy i (by simpa using hi) (by rw [gat_set hi, if_pos rfl]; omega)
      rw [gat_set hi, if_pos rfl] at h1 h2
      omega

theorem answers_eq {r k most : Nat} {l : List Int} (h : fitsG r k l = true) : answers r k l most = (solsF r k 0 l).take most := by
  unfold answers addT
  rw [if_pos h, List.nil_append]
theorem keepL_same {r k : Nat} {now : List Int} {i j : Nat} (hi : i < now.length) (hj : j ≠ i) : gat (keepL r k now i) j = gat now j := by
  unfold keepL
  split
  · rfl
  · rw [gat_set hi, if_neg hj]

section
variable {r k : Nat} {full order : List Int}
theorem makeL_mono (ho : ∀ j, j < order.length → 0 ≤ gat order j ∧ gat order j < (full.length : Int)) (q : Nat) : ∀ (d : Nat), q + d ≤ order.length → ∀ j, gat (makeL r k full (order.take (q + d))) j = gat (makeL r k full (order.take q)) j ∨ gat (makeL r k full (order.take (q + d))) j = 0
  | 0, _, _ => .inl rfl
  | d + 1, hd, j => by
    rw [← Nat.add_assoc, makeL_take (by omega)]
    have hb := ho (q + d) (by omega)
    rcases keepL_sub (r := r) (k := k) (now := makeL r k full (order.take (q + d))) (i := (gat order (q + d)).toNat) (j := j) (by rw [makeL_len]; omega) with h | h
    · rw [h]; exact makeL_mono ho q d (by omega) j
    · exact .inr h
theorem makeL_untouched (ho : ∀ j, j < order.length → 0 ≤ gat order j ∧ gat order j < (full.length : Int)) {i : Nat} : ∀ (q : Nat), q ≤ order.length → (∀ t, t < q → gat order t ≠ (i : Int)) → gat (makeL r k full (order.take q)) i = gat full i
  | 0, _, _ => rfl
  | q + 1, hq, h => by
    rw [makeL_take (by omega)]
    have hb := ho q (by omega)
    rw [keepL_same (by rw [makeL_len]; omega) (fun e => h q (by omega) (by omega))]
    exact makeL_untouched ho q (by omega) (fun t ht => h t (by omega))
theorem sub_fits {now : List Int} (hl : now.length = full.length) (hsub : ∀ j, gat now j = gat full j ∨ gat now j = 0) (hf : NoConf r k full) : NoConf r k now := by
  intro a b ha hb hne h0 he
  rcases hsub a with h1 | h1
  · rcases hsub b with h2 | h2
    · exact hf a b (by omega) (by omega) hne (by rw [← h1]; exact h0) (by rw [← h1, ← h2]; exact he)
    · rw [h2] at he; exact absurd he h0
  · exact absurd h1 h0
theorem sub_inN {now : List Int} (hl : now.length = full.length) (hsub : ∀ j, gat now j = gat full j ∨ gat now j = 0) (hp : InN r k full) : InN r k now := by
  intro j hj
  have := hp j (by omega)
  rcases hsub j with h | h <;> rw [h] <;> omega
theorem sub_set {now : List Int} {i : Nat} (hi : i < now.length) (hsub : ∀ j, gat now j = gat full j ∨ gat now j = 0) : ∀ j, gat (now.set i 0) j = gat full j ∨ gat (now.set i 0) j = 0 := by
  intro j
  rw [gat_set hi]
  split
  · exact .inr rfl
  · exact hsub j

theorem full_valid (hl : full.length = r * k * (r * k)) (hp : InN r k full) (hpos : ∀ j, j < full.length → 0 < gat full j) (hf : fitsG r k full = true) : Valid r k full :=
  ⟨hl, fun j hj => ⟨hpos j hj, (hp j hj).2⟩, fun i j hi hj hne he => noConf_of_fits hf hp i j hi hj hne (by have := hpos i hi; omega) he⟩
variable (hn : r * k ≤ 9) (hl : full.length = r * k * (r * k)) (hp : InN r k full) (hf : fitsG r k full = true) (ho : ∀ j, j < order.length → 0 ≤ gat order j ∧ gat order j < (full.length : Int))
include hn hl hp hf ho
theorem one_answer (hpos : ∀ j, j < full.length → 0 < gat full j) : ∀ (q : Nat), q ≤ order.length → solsF r k 0 (makeL r k full (order.take q)) = [full]
  | 0, _ => by
    show solsF r k 0 full = [full]
    unfold solsF
    exact sols_full _ _ _ hpos (by omega)
  | q + 1, hq => by
    have ih := one_answer hpos q (by omega)
    rw [makeL_take (by omega)]
    have hb := ho q (by omega)
    have hsub := makeL_sub (r := r) (k := k) (full := full) q (order := order) (by omega) ho
    have hnl : (makeL r k full (order.take q)).length = full.length := makeL_len _
    obtain ⟨now, hnow⟩ : ∃ now, makeL r k full (order.take q) = now := ⟨_, rfl⟩
    rw [hnow] at ih hsub hnl ⊢
    obtain ⟨i, hi⟩ : ∃ i, (gat order q).toNat = i := ⟨_, rfl⟩
    have hil : i < now.length := by omega
    rw [hi]
    unfold keepL
    split
    · exact ih
    · rename_i hle
      have hs2 := sub_set hil hsub
      have hl2 : (now.set i 0).length = full.length := by rw [List.length_set]; exact hnl
      have hfit : fitsG r k (now.set i 0) = true := fits_of_noConf (sub_fits hl2 hs2 (noConf_of_fits hf hp))
      rw [answers_eq hfit] at hle
      have hmem : full ∈ solsF r k 0 (now.set i 0) := by
        unfold solsF
        exact sols_complete hn (full_valid hl hp hpos hf) _ 0 _ (by omega) hl2 (sub_inN hl2 hs2 hp) (fun j hj => absurd hj (by omega)) (fun j hj h0 => by
          rcases hs2 j with h | h
          · exact h.symm
          · exact absurd h h0)
      match hx : solsF r k 0 (now.set i 0), hmem with
      | [], hm => simp at hm
      | [x], hm => simp at hm; rw [hm]
      | x :: y :: l, _ => rw [hx] at hle; simp at hle
theorem one_more {i t : Nat} (ht : t < order.length) (hti : gat order t = (i : Int)) (hkept : gat (makeL r k full order) i ≠ 0) : (answers r k ((makeL r k full order).set i 0) 2).length = 2 := by
  have hb := ho t ht
  have hsubt := makeL_sub (r := r) (k := k) (full := full) t (order := order) (by omega) ho
  have hnlt : (makeL r k full (order.take t)).length = full.length := makeL_len _
  have hmono := makeL_mono (r := r) (k := k) (full := full) ho (t + 1) (order.length - (t + 1)) (by omega)
  rw [show t + 1 + (order.length - (t + 1)) = order.length by omega, List.take_length] at hmono
  have hstep := makeL_take (r := r) (k := k) (full := full) ht
  rw [hti, Int.toNat_natCast] at hstep
  have hnp : (makeL r k full order).length = full.length := makeL_len _
  obtain ⟨p, hpp⟩ : ∃ p, makeL r k full order = p := ⟨_, rfl⟩
  rw [hpp] at hkept hmono hnp ⊢
  obtain ⟨now, hnow⟩ : ∃ now, makeL r k full (order.take t) = now := ⟨_, rfl⟩
  rw [hnow] at hsubt hnlt hstep
  have hil : i < now.length := by omega
  have hbig : (answers r k (now.set i 0) 2).length > 1 := by
    by_cases h : (answers r k (now.set i 0) 2).length > 1
    · exact h
    · exfalso
      have h1 : keepL r k now i = now.set i 0 := by unfold keepL; rw [if_neg h]
      rcases hmono i with h2 | h2
      · rw [hstep, h1, gat_set hil, if_pos rfl] at h2; exact hkept h2
      · exact hkept h2
  have hkeep : keepL r k now i = now := by unfold keepL; rw [if_pos hbig]
  rw [hstep, hkeep] at hmono
  have hs2 := sub_set hil hsubt
  have hl2 : (now.set i 0).length = full.length := by rw [List.length_set]; exact hnlt
  have hnc := sub_fits hl2 hs2 (noConf_of_fits hf hp)
  have hin2 := sub_inN hl2 hs2 hp
  rw [answers_eq (fits_of_noConf hnc)] at hbig
  have hnd := sols_nodup hn (now.set i 0).length 0 (now.set i 0) (by omega) hin2
  have hsnd := sols_sound hn (now.set i 0).length 0 (now.set i 0) (by omega) (by omega) hin2 (fun j hj => absurd hj (by omega)) hnc
  have hext := sols_ext (now.set i 0).length 0 (now.set i 0) (by omega) hin2 hn
  unfold solsF at hbig
  rw [Nat.sub_zero] at hbig
  have hip : i < p.length := by omega
  have hpl : (p.set i 0).length = full.length := by rw [List.length_set]; exact hnp
  have hsubp : ∀ j, gat p j = gat full j ∨ gat p j = 0 := fun j => by
    rcases hmono j with h | h
    · rw [h]; exact hsubt j
    · exact .inr h
  have hsp := sub_set hip hsubp
  have hncp := sub_fits hpl hsp (noConf_of_fits hf hp)
  have hinp := sub_inN hpl hsp hp
  rw [answers_eq (fits_of_noConf hncp)]
  match hx : sols r k (now.set i 0).length 0 (now.set i 0), hbig with
  | [], h => simp at h
  | [x], h => simp at h
  | x :: y :: l, _ =>
    rw [hx] at hnd hsnd hext
    have hxy : x ≠ y := (List.pairwise_cons.1 hnd).1 y (by simp)
    have hmem : ∀ s, s ∈ x :: y :: l → s ∈ solsF r k 0 (p.set i 0) := fun s hs => by
      unfold solsF
      refine sols_complete hn (hsnd s hs) _ 0 _ (by omega) (by rw [hpl]; have := (hsnd s hs).1; omega) hinp (fun j hj => absurd hj (by omega)) (fun j hj h0 => ?_)
      have h1 := hext s hs j (by omega)
      rw [gat_set hip] at h0 ⊢
      rw [gat_set hil] at h1
      by_cases e : j = i
      · rw [if_pos e] at h0; exact absurd rfl h0
      · rw [if_neg e] at h0 h1 ⊢
        rcases hmono j with h2 | h2
        · rw [h2] at h0 ⊢; exact h1 h0
        · exact absurd h2 h0
    have m1 := hmem x (by simp)
    have m2 := hmem y (by simp)
    match hy : solsF r k 0 (p.set i 0), m1, m2 with
    | [], h, _ => simp at h
    | [z], h1, h2 => simp at h1 h2; exact absurd (h1.trans h2.symm) hxy
    | z1 :: z2 :: l2, _, _ => simp
end
end Go.Proofs.YtfoehijlafooaaaDoor
