/- Rows of ints that a call itself makes, in a slice of its own: words for memory, nothing of the program. -/
import Derived.Test.YtcdfeaodfmfdnaaGreatDoorBase
import Derived.Maps.AppendAt
namespace Go.Proofs.YtcdfeaodfmfdnaaGreatDoor
open Go.RowKit

/-- 'append(s, u)' onto a row of the call's own, elements of one cell; where the new row lies is told -/
theorem wpList_push1 {P : Program} {ops : Array Oper} {rest : List Oper} {o : Oper} {a : Act} {Q : Exit → Act → World → Prop} (w : World) (hgd : o.guard = none) (s x : Operand) (t : TypeId)
    (ho : o.op = .call { callee := .builtin .append, args := #[s, x], argTypes := #[t, t] })
    (base : Nat) (e : TypeId) (i : TypeInfo) (z : Value) (bytes : Nat) (ht : P.underlying t = some (.slice e)) (hi : P.info? e = some i) (hz : i.zero = some z)
    (hsize : i.size = 1) (hby : i.bytes = bytes) (hzs : z.cells.size = 1)
    (v : Value) (n : Nat) (xs : List Value) (hs : a.eval s = v) (hown : w.ownsRow base e 1 v n xs) (u : Value) (g : Nat)
    (hx : a.eval x = .slice (some ⟨g, 0, none⟩) 1 1) (hcell : w.cell? ⟨g, 0, none⟩ = some u) (hu : u.oneCell' = true)
    (h63 : n + 1 ≤ maxLen) (hbytes : (n + 1) * bytes ≤ 140737488355328) (hbase : base ≤ w.heap.size)
    (h : ∀ v' w', w'.ownsRow base e 1 v' (n + 1) (xs ++ [u]) → Only (fun k => v.ownBlock = some k) w w' → (v'.ownBlock = v.ownBlock ∨ v'.ownBlock = some w.heap.size) → wpList P ops Q rest (a.put o.dst v') w') : wpList P ops Q (o :: rest) a w := by
  refine wpList_append_own_at w hgd s x t ho base e i z 1 bytes ht hi hz hsize hby hzs (by decide) v n xs hs hown ⟨g, 0, none⟩ 1 1 [u] hx rfl ?_ (by simpa using hu) h63 hbytes hbase ?_
  · intro j u' hj
    match j, hj with
    | 0, hj => simp at hj; subst hj; simpa [Addr.add] using hcell
  · intro v' w' h1 h2 _ h4
    exact h v' w' h1 ((Only.refl _ _).grown h2 (fun k hk => .inl hk)) h4

/-- v holds, in a row of the call's own, slices that read as the rows of ints -/
def RowsOwn (w : World) (base : Nat) (e : TypeId) (v : Value) (rows : List (List Int)) : Prop :=
  ∃ vs : List Value, w.ownsRow base e 1 v rows.length vs ∧ ∀ k (h : k < rows.length), ∃ Ak ck, rows[k].length ≤ ck ∧ vs[k]? = some (.slice Ak rows[k].length ck) ∧
    Cells w w.heap.size Ak (ints rows[k]) ∧ (0 < rows[k].length → ∀ a, Ak = some a → v.ownBlock ≠ some a.block)

section
variable {w w' : World} {base : Nat} {e : TypeId} {v : Value} {rows : List (List Int)}
theorem RowsOwn.nil_ (w : World) (base : Nat) (e : TypeId) : RowsOwn w base e (.slice none 0 0) [] := ⟨[], World.ownsRow_nil _ _ _ _, fun k h => by simp at h⟩

theorem Cells.only {S : Nat → Prop} {A : Option Addr} {xs : List Value} (h : Cells w w.heap.size A xs) (hb : Only S w w') (hA : 0 < xs.length → ∀ a, A = some a → ¬ S a.block) : Cells w' w'.heap.size A xs := fun hn => by
  obtain ⟨b, off, e, hlt, hc⟩ := h hn
  refine ⟨b, off, e, Nat.lt_of_lt_of_le hlt hb.size, fun k hk => ?_⟩
  have hs : ¬ S b := by have := hA hn _ e; exact this
  rw [← hc k hk]
  exact World.cell?_of_block (hb.block b hlt hs)

theorem RowsOwn.only {S : Nat → Prop} (h : RowsOwn w base e v rows) (hb : Only S w w') (hS : ∀ k, k < w.heap.size → ¬ S k) : RowsOwn w' base e v rows := by
  obtain ⟨vs, hown, hr⟩ := h
  refine ⟨vs, ownsRow_only hown hb (fun g hg => hS g (hown.lt g hg).2), fun k hk => ?_⟩
  obtain ⟨Ak, ck, hle, hv, hc, hne⟩ := hr k hk
  refine ⟨Ak, ck, hle, hv, hc.only hb (fun hn a ha hSa => ?_), hne⟩
  obtain ⟨b, off, e, hlt, _⟩ := hc hn
  rw [e] at ha
  injection ha with ha
  subst ha
  exact hS _ hlt hSa

/-- the new row pushed -/
theorem RowsOwn.push {v' : Value} {A : Option Addr} {c : Nat} {r : List Int} (hrc : r.length ≤ c)
    (hA : Cells w w.heap.size A (ints r)) (hAne : 0 < r.length → ∀ a, A = some a → v.ownBlock ≠ some a.block)
    {vs : List Value} (hvs : w.ownsRow base e 1 v rows.length vs) (hr : ∀ k (h : k < rows.length), ∃ Ak ck, rows[k].length ≤ ck ∧ vs[k]? = some (.slice Ak rows[k].length ck) ∧
      Cells w w.heap.size Ak (ints rows[k]) ∧ (0 < rows[k].length → ∀ a, Ak = some a → v.ownBlock ≠ some a.block))
    (hown : w'.ownsRow base e 1 v' (rows.length + 1) (vs ++ [.slice A r.length c])) (hO : Only (fun k => v.ownBlock = some k) w w') (hwhere : v'.ownBlock = v.ownBlock ∨ ∃ g, v'.ownBlock = some g ∧ w.heap.size ≤ g) :
    RowsOwn w' base e v' (rows ++ [r]) := by
  have hvl : vs.length = rows.length := by have := hvs.1; omega
  refine ⟨_, by rw [List.length_append]; exact hown, fun k hk => ?_⟩
  have key : ∀ (A : Option Addr) (l : List Int), Cells w w.heap.size A (ints l) → (0 < l.length → ∀ a, A = some a → v.ownBlock ≠ some a.block) →
      Cells w' w'.heap.size A (ints l) ∧ (0 < l.length → ∀ a, A = some a → v'.ownBlock ≠ some a.block) := by
    intro A l hc hne
    refine ⟨hc.only hO (fun hn a ha => hne (by simpa using hn) a ha), fun hn a ha => ?_⟩
    obtain ⟨b, off, e, hlt, _⟩ := hc (by simpa using hn)
    rw [e] at ha
    injection ha with ha
    subst ha
    rcases hwhere with hw | ⟨g, hw, hge⟩
    · rw [hw]; exact hne hn _ e
    · rw [hw]; intro he; injection he with he; simp only at he; omega
  rw [List.length_append] at hk
  simp only [List.length_cons, List.length_nil] at hk
  by_cases hlast : k < rows.length
  · obtain ⟨Ak, ck, hle, hv, hc, hne⟩ := hr k hlast
    obtain ⟨k1, k2⟩ := key Ak _ hc hne
    refine ⟨Ak, ck, ?_, ?_, ?_, ?_⟩
    · rw [List.getElem_append_left hlast]; exact hle
    · rw [List.getElem?_append_left (by omega), List.getElem_append_left hlast]; exact hv
    · rw [List.getElem_append_left hlast]; exact k1
    · rw [List.getElem_append_left hlast]; exact k2
  · have hke : k = rows.length := by omega
    subst hke
    obtain ⟨k1, k2⟩ := key A r hA hAne
    refine ⟨A, c, ?_, ?_, ?_, ?_⟩
    · simp; exact hrc
    · rw [List.getElem?_append_right (by omega), hvl]; simp
    · simp; exact k1
    · simp; exact k2
theorem RowsOwn.rows2 (h : RowsOwn w base e v rows) : ∃ A c, v = .slice A rows.length c ∧ rows.length ≤ c ∧ Rows2 w w.heap.size A rows := by
  obtain ⟨vs, hown, hr⟩ := h
  obtain ⟨A, c, hv, hle, hl, hc⟩ := Cells.of_own hown
  exact ⟨A, c, hv, hle, vs, by omega, hc, fun k hk => by
    obtain ⟨Ak, ck, h1, h2, h3, _⟩ := hr k hk
    exact ⟨Ak, ck, h1, h2, h3⟩⟩
end
end Go.Proofs.YtcdfeaodfmfdnaaGreatDoor
