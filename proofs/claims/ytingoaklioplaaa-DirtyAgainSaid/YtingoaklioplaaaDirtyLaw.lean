/- Plain laws for the queue's heap, no program in sight: what swaps on the way up and down keep, and that the places told by a function stay exact. Conditions: those written. -/
import Derived.WalkKit
namespace Go.Proofs.Ytingoaklioplaaa
set_option linter.unusedVariables false

/-- The order's key: an order that is turned round is the order of the opposites. -/
def kap (t : Bool) (x : Int) : Int := if t then -x else x
/-- The order. -/
def ltB (t : Bool) (a b : Int) : Bool := decide (kap t a < kap t b)
theorem kap_inj {t : Bool} {a b : Int} (h : kap t a = kap t b) : a = b := by
  unfold kap at h; cases t <;> simp at h <;> omega

theorem getD_set (l : List Int) (i j : Nat) (v : Int) (h : i < l.length) : (l.set i v).getD j 0 = if j = i then v else l.getD j 0 := by
  rw [List.getD_eq_getElem?_getD, List.getD_eq_getElem?_getD, List.getElem?_set]
  by_cases e : j = i
  · subst e; simp [h]
  · simp [e, show ¬ i = j from fun h => e h.symm]
theorem getD_of {l : List Int} {i : Nat} (h : i < l.length) : l[i]? = some (l.getD i 0) := by
  rw [List.getD_eq_getElem?_getD, List.getElem?_eq_getElem h]; rfl
theorem set_getD (l : List Int) (i : Nat) : l.set i (l.getD i 0) = l := by
  apply List.ext_getElem?
  intro j
  rw [List.getElem?_set]
  split
  · rename_i e; subst e
    split
    · rename_i h; exact (getD_of h).symm
    · rename_i h; rw [List.getElem?_eq_none (by omega)]
  · rfl

/-- The heap's order. -/
def Heap (t : Bool) (l : List Int) : Prop := ∀ j, 0 < j → j < l.length → kap t (l.getD ((j - 1) / 2) 0) ≤ kap t (l.getD j 0)
/-- In order but for what stands at i, against what is above it (and, if not moved, against what is below it). -/
structure UpAt (t : Bool) (l : List Int) (i : Nat) (moved : Bool) : Prop where
  u1 : ∀ j, 0 < j → j < l.length → j ≠ i → (moved = true ∨ (j - 1) / 2 ≠ i) → kap t (l.getD ((j - 1) / 2) 0) ≤ kap t (l.getD j 0)
  u2 : ∀ j, 0 < j → j < l.length → (j - 1) / 2 = i → 0 < i → kap t (l.getD ((i - 1) / 2) 0) ≤ kap t (l.getD j 0)
/-- In order but for what stands at i, against what is below it. -/
structure DownAt (t : Bool) (l : List Int) (i : Nat) : Prop where
  d1 : ∀ j, 0 < j → j < l.length → (j - 1) / 2 ≠ i → kap t (l.getD ((j - 1) / 2) 0) ≤ kap t (l.getD j 0)
  d2 : ∀ j, 0 < j → j < l.length → (j - 1) / 2 = i → 0 < i → kap t (l.getD ((i - 1) / 2) 0) ≤ kap t (l.getD j 0)

theorem swap_getD (h : List Int) (i p : Nat) (n : Int) (hi : i < h.length) (hp : p < h.length) (hne : p ≠ i) (j : Nat) :
    ((h.set i (h.getD p 0)).set p n).getD j 0 = if j = p then n else if j = i then h.getD p 0 else h.getD j 0 := by
  rw [getD_set _ _ _ _ (by simpa using hp), getD_set _ _ _ _ hi]

theorem UpAt.step {t : Bool} {h : List Int} {i : Nat} {n : Int} {m : Bool} (H : UpAt t (h.set i n) i m) (h0 : 0 < i) (hi : i < h.length) (hlt : kap t n < kap t (h.getD ((i - 1) / 2) 0)) :
    UpAt t ((h.set i (h.getD ((i - 1) / 2) 0)).set ((i - 1) / 2) n) ((i - 1) / 2) true := by
  have hp : (i - 1) / 2 < h.length := by omega
  have hne : (i - 1) / 2 ≠ i := by omega
  have g1 := swap_getD h i ((i - 1) / 2) n hi hp hne
  have g0 := getD_set h i (v := n) (h := hi)
  have lenE : (h.set i n).length = h.length := by simp
  refine ⟨fun j j0 jl jne _ => ?_, fun j j0 jl je p0 => ?_⟩
  · simp only [List.length_set] at jl
    rw [g1, g1]
    by_cases e1 : j = i
    · subst e1
      rw [if_pos rfl, if_neg (by omega), if_pos rfl]; omega
    · rw [if_neg jne, if_neg e1]
      by_cases e2 : (j - 1) / 2 = (i - 1) / 2
      · rw [e2, if_pos rfl]
        have := H.u1 j j0 (by rw [lenE]; exact jl) e1 (.inr (by omega))
        rw [g0, g0, if_neg (by omega), if_neg e1, e2] at this
        omega
      · rw [if_neg e2]
        by_cases e3 : (j - 1) / 2 = i
        · rw [if_pos e3]
          have := H.u2 j j0 (by rw [lenE]; exact jl) e3 h0
          rw [g0, g0, if_neg (by omega), if_neg e1] at this
          exact this
        · rw [if_neg e3]
          have := H.u1 j j0 (by rw [lenE]; exact jl) e1 (.inr e3)
          rw [g0, g0, if_neg e3, if_neg e1] at this
          exact this
  · simp only [List.length_set] at jl
    have hq : ((i - 1) / 2 - 1) / 2 ≠ (i - 1) / 2 := by omega
    rw [g1, g1, if_neg hq, if_neg (by omega), if_neg (by omega)]
    have hpar := H.u1 ((i - 1) / 2) p0 (by rw [lenE]; exact hp) (by omega) (.inr (by omega))
    rw [g0, g0, if_neg (by omega), if_neg (by omega)] at hpar
    by_cases e1 : j = i
    · subst e1; rw [if_pos rfl]; exact hpar
    · rw [if_neg e1]
      have := H.u1 j j0 (by rw [lenE]; exact jl) e1 (.inr (by omega))
      rw [g0, g0, if_neg (by omega), if_neg e1, je] at this
      omega
theorem UpAt.done_moved {t : Bool} {l : List Int} {i : Nat} (H : UpAt t l i true) (h : i = 0 ∨ kap t (l.getD ((i - 1) / 2) 0) ≤ kap t (l.getD i 0)) : Heap t l := fun j j0 jl => by
  by_cases e : j = i
  · subst e; rcases h with h | h
    · omega
    · exact h
  · exact H.u1 j j0 jl e (.inl rfl)
theorem UpAt.done_still {t : Bool} {l : List Int} {i : Nat} (H : UpAt t l i false) (h : i = 0 ∨ kap t (l.getD ((i - 1) / 2) 0) ≤ kap t (l.getD i 0)) : DownAt t l i := by
  refine ⟨fun j j0 jl jp => ?_, H.u2⟩
  by_cases e : j = i
  · subst e; rcases h with h | h
    · omega
    · exact h
  · exact H.u1 j j0 jl e (.inr jp)

theorem DownAt.step {t : Bool} {h : List Int} {i k : Nat} {n : Int} (H : DownAt t (h.set i n) i) (hk : k < h.length) (hi : i < h.length) (hki : k = 2 * i + 1 ∨ k = 2 * i + 2)
    (hlt : kap t (h.getD k 0) < kap t n) (hmin : ∀ j, j = 2 * i + 1 ∨ j = 2 * i + 2 → j < h.length → kap t (h.getD k 0) ≤ kap t (h.getD j 0)) :
    DownAt t ((h.set i (h.getD k 0)).set k n) k := by
  have hne : k ≠ i := by omega
  have g1 := swap_getD h i k n hi hk hne
  have g0 := getD_set h i (v := n) (h := hi)
  have lenE : (h.set i n).length = h.length := by simp
  have hpk : (k - 1) / 2 = i := by omega
  refine ⟨fun j j0 jl jp => ?_, fun j j0 jl je _ => ?_⟩
  · simp only [List.length_set] at jl
    rw [g1, g1, if_neg jp]
    by_cases e1 : j = k
    · subst e1
      rw [if_pos rfl, hpk, if_pos rfl]; omega
    · rw [if_neg e1]
      by_cases e2 : j = i
      · subst e2
        rw [if_neg (by omega), if_pos rfl]
        have := H.d2 k (by omega) (by rw [lenE]; exact hk) hpk j0
        rw [g0, g0, if_neg (by omega), if_neg (by omega)] at this
        exact this
      · rw [if_neg e2]
        by_cases e3 : (j - 1) / 2 = i
        · rw [if_pos e3]; exact hmin j (by omega) jl
        · rw [if_neg e3]
          have := H.d1 j j0 (by rw [lenE]; exact jl) e3
          rw [g0, g0, if_neg e3, if_neg e2] at this
          exact this
  · simp only [List.length_set] at jl
    rw [g1, g1, hpk, if_neg (by omega), if_pos rfl, if_neg (by omega), if_neg (by omega)]
    have := H.d1 j j0 (by rw [lenE]; exact jl) (by omega)
    rw [g0, g0, if_neg (by omega), if_neg (by omega), je] at this
    exact this
theorem DownAt.done {t : Bool} {l : List Int} {i : Nat} (H : DownAt t l i) (h : ∀ j, j = 2 * i + 1 ∨ j = 2 * i + 2 → j < l.length → kap t (l.getD i 0) ≤ kap t (l.getD j 0)) : Heap t l := fun j j0 jl => by
  by_cases e : (j - 1) / 2 = i
  · rw [e]; exact h j (by omega) jl
  · exact H.d1 j j0 jl e

/-- The least one stands first. -/
theorem Heap.least {t : Bool} {l : List Int} (H : Heap t l) : ∀ (k j : Nat), j ≤ k → j < l.length → kap t (l.getD 0 0) ≤ kap t (l.getD j 0)
  | 0, j, hj, _ => by obtain rfl : j = 0 := by omega
                      exact Int.le_refl _
  | k + 1, j, hj, hl => by
    by_cases h0 : j = 0
    · subst h0; exact Int.le_refl _
    · have h1 := Heap.least H k ((j - 1) / 2) (by omega) (by omega)
      have h2 := H j (by omega) hl
      omega

/-- A function changed at one number. -/
def upd (f : Int → Option Nat) (n : Int) (v : Option Nat) : Int → Option Nat := fun m => if m = n then v else f m
theorem upd_same (f : Int → Option Nat) (n : Int) (v : Option Nat) : upd f n v n = v := if_pos rfl
theorem upd_other {f : Int → Option Nat} {n m : Int} {v : Option Nat} (h : m ≠ n) : upd f n v m = f m := if_neg h

/-- The function tells each number's place, and no other. -/
def Exact (l : List Int) (f : Int → Option Nat) : Prop := ∀ m j, f m = some j ↔ l[j]? = some m
/-- The same while n is still to be put at i. -/
def Places (h : List Int) (i : Nat) (n : Int) (f : Int → Option Nat) : Prop :=
  (∀ m, m ≠ n → ∀ j, f m = some j ↔ (j ≠ i ∧ h[j]? = some m)) ∧ ∀ j, j ≠ i → h[j]? ≠ some n
/-- Who is there, but for n. -/
def Dom (f : Int → Option Nat) (n : Int) (S : Int → Bool) : Prop := ∀ m, m ≠ n → (f m).isSome = S m

theorem Exact.places {h : List Int} {f : Int → Option Nat} (H : Exact h f) {i : Nat} {n : Int} (hi : h[i]? = some n) : Places h i n f := by
  refine ⟨fun m hm j => ?_, fun j hj e => ?_⟩
  · rw [H m j]
    constructor
    · intro e
      refine ⟨fun ej => ?_, e⟩
      subst ej
      rw [hi] at e
      exact hm (Option.some.inj e).symm
    · exact fun e => e.2
  · have h1 := (H n j).2 e
    have h2 := (H n i).2 hi
    rw [h1] at h2
    exact hj (Option.some.inj h2)
theorem Exact.push {h : List Int} {f : Int → Option Nat} (H : Exact h f) {n : Int} (hn : f n = none) : Places (h ++ [n]) h.length n f := by
  refine ⟨fun m hm j => ?_, fun j hj e => ?_⟩
  · rw [H m j]
    rcases Nat.lt_trichotomy j h.length with hl | hl | hl
    · rw [List.getElem?_append_left hl]
      exact ⟨fun e => ⟨by omega, e⟩, fun e => e.2⟩
    · subst hl
      rw [List.getElem?_eq_none (Nat.le_refl _)]
      exact ⟨fun e => (by cases e), fun e => absurd rfl e.1⟩
    · rw [List.getElem?_eq_none (by omega), List.getElem?_eq_none (by simp; omega)]
      exact ⟨fun e => (by cases e), fun e => (by cases e.2)⟩
  · rcases Nat.lt_or_ge j h.length with hl | hl
    · rw [List.getElem?_append_left hl] at e
      have := (H n j).2 e
      rw [hn] at this
      cases this
    · rw [List.getElem?_eq_none (by simp; omega)] at e
      cases e
theorem Places.step {h : List Int} {i p : Nat} {n : Int} {f : Int → Option Nat} (H : Places h i n f) (hi : i < h.length) (hp : p < h.length) (hne : p ≠ i) :
    Places (h.set i (h.getD p 0)) p n (upd f (h.getD p 0) (some i)) ∧ h.getD p 0 ≠ n ∧ f (h.getD p 0) = some p := by
  have hpv := getD_of hp
  have hvn : h.getD p 0 ≠ n := fun e => H.2 p hne (by rw [hpv, e])
  have hfv : f (h.getD p 0) = some p := (H.1 _ hvn p).2 ⟨hne, hpv⟩
  refine ⟨⟨fun m hm j => ?_, fun j hj e => ?_⟩, hvn, hfv⟩
  · rw [List.getElem?_set]
    by_cases e : m = h.getD p 0
    · subst e
      rw [upd_same]
      by_cases ei : i = j
      · subst ei
        rw [if_pos rfl, if_pos hi]
        exact ⟨fun _ => ⟨fun e => hne e.symm, rfl⟩, fun _ => rfl⟩
      · rw [if_neg ei]
        constructor
        · intro e; cases e; exact absurd rfl ei
        · rintro ⟨hj, e⟩
          have := (H.1 _ hvn j).2 ⟨fun e => ei e.symm, e⟩
          rw [hfv] at this
          exact absurd (Option.some.inj this).symm hj
    · rw [upd_other e, H.1 m hm j]
      by_cases ei : i = j
      · subst ei
        rw [if_pos rfl, if_pos hi]
        exact ⟨fun x => absurd rfl x.1, fun x => absurd (Option.some.inj x.2).symm e⟩
      · rw [if_neg ei]
        refine ⟨fun x => ⟨fun ej => ?_, x.2⟩, fun x => ⟨fun e => ei e.symm, x.2⟩⟩
        subst ej
        rw [hpv] at x
        exact e (Option.some.inj x.2).symm
  · rw [List.getElem?_set] at e
    split at e
    · exact hvn (Option.some.inj e)
    · rename_i hij
      exact H.2 j (fun e => hij e.symm) e
theorem Places.done {h : List Int} {i : Nat} {n : Int} {f : Int → Option Nat} (H : Places h i n f) (hi : i < h.length) : Exact (h.set i n) (upd f n (some i)) := fun m j => by
  rw [List.getElem?_set]
  by_cases e : m = n
  · subst e
    rw [upd_same]
    by_cases ei : i = j
    · subst ei; rw [if_pos rfl, if_pos hi]; simp
    · rw [if_neg ei]
      exact ⟨fun x => absurd (Option.some.inj x) ei, fun x => absurd x (H.2 j (fun e => ei e.symm))⟩
  · rw [upd_other e, H.1 m e j]
    by_cases ei : i = j
    · subst ei
      rw [if_pos rfl, if_pos hi]
      exact ⟨fun x => absurd rfl x.1, fun x => absurd (Option.some.inj x).symm e⟩
    · rw [if_neg ei]
      exact ⟨fun x => x.2, fun x => ⟨fun e => ei e.symm, x⟩⟩
theorem Dom.step {f : Int → Option Nat} {n v : Int} {S : Int → Bool} {p i : Nat} (H : Dom f n S) (hv : v ≠ n) (hf : f v = some p) : Dom (upd f v (some i)) n S := fun m hm => by
  by_cases e : m = v
  · subst e
    rw [upd_same, ← H m hm, hf]; rfl
  · rw [upd_other e]; exact H m hm
theorem Dom.done {f : Int → Option Nat} {n : Int} {S : Int → Bool} {i : Nat} (H : Dom f n S) (m : Int) : (upd f n (some i) m).isSome = (decide (m = n) || S m) := by
  by_cases e : m = n
  · subst e; rw [upd_same]; simp
  · rw [upd_other e, H m e]; simp [e]
end Go.Proofs.Ytingoaklioplaaa
