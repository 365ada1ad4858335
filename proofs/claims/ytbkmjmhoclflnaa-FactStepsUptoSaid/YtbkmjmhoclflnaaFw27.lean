/- Rows of elements of k cells, read and written; merging, in plain lists. -/
import Derived.Test.YtbkmjmhoclflnaaFw26
namespace Go.Proofs.Ytbkmjmhoclflnaa.Fw
open Go Go.RowKit
set_option linter.unusedVariables false
set_option linter.unusedSimpArgs false

section
variable {α : Type} {enc : α → List AV} {k : Nat}

theorem fmap_length (henc : ∀ x, (enc x).length = k) (l : List α) : (l.map enc).flatten.length = l.length * k := by
  have := flat_len (rows := l.map enc) (k := k) fun r hr => by obtain ⟨x, _, rfl⟩ := List.mem_map.1 hr; exact henc x
  simpa using this
theorem fmap_at (henc : ∀ x, (enc x).length = k) {l : List α} {i : Nat} {x : α} (h : l[i]? = some x) : ((l.map enc).flatten.drop (i * k)).take k = enc x := by
  have hk : ∀ r ∈ l.map enc, r.length = k := fun r hr => by obtain ⟨y, _, rfl⟩ := List.mem_map.1 hr; exact henc y
  have hlt := (List.getElem?_eq_some_iff.1 h).1
  have hx := (List.getElem?_eq_some_iff.1 h).2
  rw [← flat_drop hk, ← List.map_drop, List.drop_eq_getElem_cons hlt, List.map_cons, List.flatten_cons, hx, List.take_append, List.take_of_length_le (by rw [henc]; omega), henc]
  simp
theorem rows_rd (henc : ∀ x, (enc x).length = k) {σ : Store} {r : Nat} {ty : TypeId} {l : List α} (h : σ[r]? = some (.cells (l.map enc).flatten ty)) {i : Nat} {x : α} (hi : l[i]? = some x) : rdCells σ r (i * k) k = some (enc x) := by
  have hlt := (List.getElem?_eq_some_iff.1 hi).1
  have h1 : (i + 1) * k ≤ l.length * k := Nat.mul_le_mul_right k hlt
  rw [Nat.add_mul] at h1
  rw [rdCells_get h _ _ (by rw [fmap_length henc]; omega), fmap_at henc hi]
theorem aput_mid : ∀ (cs a b c : List AV), b.length = cs.length → aput (a ++ b ++ c) a.length cs = a ++ cs ++ c
  | [], a, b, c, h => by
    have : b = [] := List.eq_nil_of_length_eq_zero (by simpa using h)
    subst this; simp [aput]
  | x :: cs, a, [], c, h => by simp at h
  | x :: cs, a, y :: b, c, h => by
    simp only [aput]
    have h1 : (a ++ y :: b ++ c).set a.length x = (a ++ [x]) ++ b ++ c := by
      rw [List.append_assoc, List.set_append_right _ _ (Nat.le_refl _)]
      simp
    rw [h1]
    have := aput_mid cs (a ++ [x]) b c (by simpa using h)
    simp only [List.length_append, List.length_cons, List.length_nil] at this
    rw [this]
    simp
theorem get_mid {A B : List α} {u : α} {i : Nat} (hi : i = A.length) : (A ++ u :: B)[i]? = some u := by subst hi; simp
theorem set_mid {A B : List α} {u v : α} {i : Nat} (hi : i = A.length) : (A ++ u :: B).set i v = A ++ v :: B := by
  subst hi; rw [List.set_append_right _ _ (Nat.le_refl _)]; simp
theorem rows_wr (henc : ∀ x, (enc x).length = k) (hone : ∀ x, (enc x).all AV.one = true) {σ : Store} {r : Nat} {ty : TypeId} {l : List α} (h : σ[r]? = some (.cells (l.map enc).flatten ty)) {i : Nat} (hi : i < l.length) (x : α) :
    wrCells σ r (i * k) (enc x) = some (σ.set r (.cells ((l.set i x).map enc).flatten ty)) := by
  have h1 : (i + 1) * k ≤ l.length * k := Nat.mul_le_mul_right k hi
  rw [Nat.add_mul] at h1
  rw [wrCells_get h (by rw [fmap_length henc, henc]; omega) (hone x)]
  have hs : l = l.take i ++ l[i] :: l.drop (i + 1) := by rw [← List.drop_eq_getElem_cons hi, List.take_append_drop]
  have hset : l.set i x = l.take i ++ x :: l.drop (i + 1) := by
    conv => lhs; rw [hs]
    exact set_mid (by simp; omega)
  have e1 : (l.map enc).flatten = ((l.take i).map enc).flatten ++ enc l[i] ++ ((l.drop (i + 1)).map enc).flatten := by
    conv => lhs; rw [hs]
    simp only [List.map_append, List.map_cons, List.flatten_append, List.flatten_cons, List.append_assoc]
  have e2 : (((l.take i).map enc).flatten).length = i * k := by rw [fmap_length henc]; simp [Nat.min_eq_left (Nat.le_of_lt hi)]
  rw [hset, e1]
  conv => lhs; rw [← e2]
  rw [aput_mid _ _ _ _ (by rw [henc, henc])]
  simp only [List.map_append, List.map_cons, List.flatten_append, List.flatten_cons, List.append_assoc]

theorem get_mid2 {A B C : List α} {u v : α} {j : Nat} (hj : j = A.length + 1 + B.length) : (A ++ u :: (B ++ v :: C))[j]? = some v := by
  have : A ++ u :: (B ++ v :: C) = (A ++ u :: B) ++ v :: C := by simp
  rw [this]; exact get_mid (by simp; omega)
theorem set_mid2 {A B C : List α} {u v w : α} {j : Nat} (hj : j = A.length + 1 + B.length) : (A ++ u :: (B ++ v :: C)).set j w = A ++ u :: (B ++ w :: C) := by
  have : A ++ u :: (B ++ v :: C) = (A ++ u :: B) ++ v :: C := by simp
  rw [this, set_mid (by simp; omega)]; simp

/-! ### Merging -/
variable (lt : α → α → Bool)
structure SWO : Prop where
  asymm : ∀ {x y}, lt x y = true → lt y x = false
  neg : ∀ {x y z}, lt x z = true → lt x y = true ∨ lt y z = true
variable {lt}
theorem SWO.trans (h : SWO lt) {x y z : α} (a : lt x y = true) (b : lt y z = true) : lt x z = true := by
  rcases h.neg (y := z) a with c | c
  · exact c
  · rw [h.asymm b] at c; cases c
theorem SWO.ge (h : SWO lt) {x y z : α} (a : lt y x = false) (b : lt z y = false) : lt z x = false := by
  cases c : lt z x with
  | false => rfl
  | true =>
    rcases h.neg (y := y) c with d | d
    · rw [d] at b; cases b
    · rw [d] at a; cases a
theorem SWO.irr (h : SWO lt) (x : α) : lt x x = false := by
  cases c : lt x x with
  | false => rfl
  | true => have := h.asymm c; rw [c] at this; cases this
variable (lt)
def mrg : List α → List α → List α
  | [], b => b
  | a, [] => a
  | x :: a, y :: b => if lt y x then y :: mrg (x :: a) b else x :: mrg a (y :: b)
termination_by a b => a.length + b.length
variable {lt}
theorem mrg_nil (b : List α) : mrg lt [] b = b := by simp [mrg]
theorem mrg_nil' (a : List α) : mrg lt a [] = a := by cases a <;> simp [mrg]
theorem mrg_lt {x y : α} (a b : List α) (h : lt y x = true) : mrg lt (x :: a) (y :: b) = y :: mrg lt (x :: a) b := by rw [mrg]; simp [h]
theorem mrg_ge {x y : α} (a b : List α) (h : lt y x = false) : mrg lt (x :: a) (y :: b) = x :: mrg lt a (y :: b) := by rw [mrg]; simp [h]
theorem mrg_length (a b : List α) : (mrg lt a b).length = a.length + b.length := by
  fun_induction mrg lt a b <;> simp_all <;> omega
theorem mrg_mem {z : α} (a b : List α) : z ∈ mrg lt a b ↔ z ∈ a ∨ z ∈ b := by
  fun_induction mrg lt a b <;> simp_all <;> grind
theorem mrg_assoc (hS : SWO lt) : ∀ (n : Nat) (a b c : List α), a.length + b.length + c.length = n → mrg lt (mrg lt a b) c = mrg lt a (mrg lt b c) := by
  intro n
  induction n using Nat.strongRecOn with
  | _ n ih =>
    intro a b c hn
    match a, b, c, hn with
    | [], b, c, _ => rw [mrg_nil, mrg_nil]
    | x :: a, [], c, _ => rw [mrg_nil', mrg_nil]
    | x :: a, y :: b, [], _ => rw [mrg_nil', mrg_nil']
    | x :: a, y :: b, z :: c, hn =>
      simp only [List.length_cons] at hn
      cases h1 : lt y x with
      | true =>
        rw [mrg_lt a b h1]
        cases h2 : lt z y with
        | true =>
          rw [mrg_lt _ c h2, mrg_lt b c h2, mrg_lt a _ (hS.trans h2 h1), ← mrg_lt a b h1]
          rw [ih _ (by simp; omega) (x :: a) (y :: b) c rfl]
        | false =>
          rw [mrg_ge _ c h2, mrg_ge b c h2, mrg_lt a _ h1]
          rw [ih _ (by simp; omega) (x :: a) b (z :: c) rfl]
      | false =>
        rw [mrg_ge a b h1]
        cases h2 : lt z y with
        | true =>
          rw [mrg_lt b c h2]
          cases h3 : lt z x with
          | true =>
            rw [mrg_lt _ c h3, mrg_lt a _ h3, ← mrg_ge a b h1]
            rw [ih _ (by simp; omega) (x :: a) (y :: b) c rfl]
          | false =>
            rw [mrg_ge _ c h3, mrg_ge a _ h3, ← mrg_lt b c h2]
            rw [ih _ (by simp; omega) a (y :: b) (z :: c) rfl]
        | false =>
          have h3 : lt z x = false := hS.ge h1 h2
          rw [mrg_ge _ c h3, mrg_ge b c h2, mrg_ge a _ h1, ← mrg_ge b c h2]
          rw [ih _ (by simp; omega) a (y :: b) (z :: c) rfl]
/-- Halves that lie apart. -/
theorem mrg_split : ∀ (n : Nat) (u1 u2 v1 v2 : List α), u1.length + v1.length = n → (∀ x ∈ u1, ∀ y ∈ v2, lt y x = false) → (∀ y ∈ v1, ∀ x ∈ u2, lt y x = true) → mrg lt (u1 ++ u2) (v1 ++ v2) = mrg lt u1 v1 ++ mrg lt u2 v2 := by
  intro n
  induction n with
  | zero =>
    intro u1 u2 v1 v2 hn _ _
    have e1 : u1 = [] := List.eq_nil_of_length_eq_zero (by omega)
    have e2 : v1 = [] := List.eq_nil_of_length_eq_zero (by omega)
    subst e1; subst e2; simp [mrg_nil]
  | succ n ih =>
    intro u1 u2 v1 v2 hn h1 h2
    match u1, v1 with
    | [], [] => simp at hn
    | [], y :: v1 =>
      rw [mrg_nil, List.nil_append]
      cases u2 with
      | nil => rw [mrg_nil, mrg_nil]
      | cons x u2 =>
        rw [List.cons_append, mrg_lt _ _ (h2 y (by simp) x (by simp)), List.cons_append]
        have := ih [] (x :: u2) v1 v2 (by simpa using hn) (by simp) (fun y hy => h2 y (by simp [hy]))
        rw [mrg_nil, List.nil_append] at this
        rw [this]
    | x :: u1, [] =>
      rw [mrg_nil', List.nil_append]
      cases v2 with
      | nil => rw [mrg_nil', mrg_nil']
      | cons y v2 =>
        rw [List.cons_append, mrg_ge _ _ (h1 x (by simp) y (by simp)), List.cons_append]
        have := ih u1 u2 [] (y :: v2) (by simpa using hn) (fun x hx => h1 x (by simp [hx])) (by simp)
        rw [mrg_nil', List.nil_append] at this
        rw [this]
    | x :: u1, y :: v1 =>
      cases h : lt y x with
      | true =>
        rw [List.cons_append, List.cons_append, mrg_lt _ _ h, mrg_lt _ _ h, List.cons_append]
        have := ih (x :: u1) u2 v1 v2 (by simp at hn ⊢; omega) h1 (fun y hy => h2 y (by simp [hy]))
        rw [List.cons_append] at this
        rw [this]
      | false =>
        rw [List.cons_append, List.cons_append, mrg_ge _ _ h, mrg_ge _ _ h, List.cons_append]
        have := ih u1 u2 (y :: v1) v2 (by simp at hn ⊢; omega) (fun x hx => h1 x (by simp [hx])) h2
        rw [List.cons_append] at this
        rw [this]
theorem one_mrg (x : α) (v1 v2 : List α) (h1 : ∀ y ∈ v1, lt y x = true) (h2 : ∀ y ∈ v2, lt y x = false) : mrg lt [x] (v1 ++ v2) = v1 ++ x :: v2 := by
  have := mrg_split _ [] [x] v1 v2 rfl (by simp) (fun y hy z hz => by simp at hz; subst hz; exact h1 y hy)
  rw [List.nil_append, mrg_nil] at this
  rw [this]
  congr 1
  cases v2 with
  | nil => rw [mrg_nil']
  | cons y v2 => rw [mrg_ge _ _ (h2 y (by simp)), mrg_nil]
theorem mrg_one (x : α) (u1 u2 : List α) (h1 : ∀ y ∈ u1, lt x y = false) (h2 : ∀ y ∈ u2, lt x y = true) : mrg lt (u1 ++ u2) [x] = u1 ++ x :: u2 := by
  have := mrg_split _ u1 u2 [] [x] rfl (fun z hz y hy => by simp at hy; subst hy; exact h1 z hz) (by simp)
  rw [List.nil_append, mrg_nil'] at this
  rw [this]
  congr 1
  cases u2 with
  | nil => rw [mrg_nil]
  | cons y u2 => rw [mrg_lt _ _ (h2 y (by simp)), mrg_nil']
variable (lt)
def Srt (w : List α) : Prop := w.Pairwise fun a b => lt b a = false
def ssort (w : List α) : List α := w.foldl (fun acc x => mrg lt acc [x]) []
variable {lt}
theorem ssort_snoc (w : List α) (x : α) : ssort lt (w ++ [x]) = mrg lt (ssort lt w) [x] := by simp [ssort]
theorem ssort_append (hS : SWO lt) (a b : List α) : mrg lt (ssort lt a) (ssort lt b) = ssort lt (a ++ b) := by
  have gen : ∀ n (b : List α), b.length = n → mrg lt (ssort lt a) (ssort lt b) = ssort lt (a ++ b) := by
    intro n
    induction n with
    | zero =>
      intro b hb
      have : b = [] := List.eq_nil_of_length_eq_zero hb
      subst this; simp [ssort, mrg_nil']
    | succ n ih =>
      intro b hb
      obtain ⟨b', x, rfl⟩ : ∃ b' x, b = b' ++ [x] := ⟨b.dropLast, b.getLast (by intro e; subst e; simp at hb), (List.dropLast_concat_getLast _).symm⟩
      rw [ssort_snoc, ← mrg_assoc hS _ _ _ _ rfl, ih b' (by simpa using hb), ← List.append_assoc, ssort_snoc]
  exact gen _ b rfl
theorem mrg_srt (hS : SWO lt) (a b : List α) (ha : Srt lt a) (hb : Srt lt b) : Srt lt (mrg lt a b) := by
  have gen : ∀ (n : Nat) (a b : List α), a.length + b.length = n → Srt lt a → Srt lt b → Srt lt (mrg lt a b) := by
    intro n
    induction n with
    | zero =>
      intro a b hn ha hb
      have : a = [] := List.eq_nil_of_length_eq_zero (by omega)
      subst this; rw [mrg_nil]; exact hb
    | succ n ih =>
      intro a b hn ha hb
      match a, b with
      | [], b => rw [mrg_nil]; exact hb
      | x :: a, [] => rw [mrg_nil']; exact ha
      | x :: a, y :: b =>
        have ha' := List.pairwise_cons.1 ha
        have hb' := List.pairwise_cons.1 hb
        cases h : lt y x with
        | true =>
          rw [mrg_lt _ _ h]
          refine List.pairwise_cons.2 ⟨fun z hz => ?_, ih _ _ (by simp at hn ⊢; omega) ha hb'.2⟩
          rcases (mrg_mem _ _).1 hz with hz | hz
          · rcases List.mem_cons.1 hz with rfl | hz
            · exact hS.asymm h
            · exact hS.ge (hS.asymm h) (ha'.1 z hz)
          · exact hb'.1 z hz
        | false =>
          rw [mrg_ge _ _ h]
          refine List.pairwise_cons.2 ⟨fun z hz => ?_, ih _ _ (by simp at hn ⊢; omega) ha'.2 hb⟩
          rcases (mrg_mem _ _).1 hz with hz | hz
          · exact ha'.1 z hz
          · rcases List.mem_cons.1 hz with rfl | hz
            · exact h
            · exact hS.ge h (hb'.1 z hz)
  exact gen _ a b rfl ha hb
theorem ssort_srt (hS : SWO lt) (w : List α) : Srt lt (ssort lt w) := by
  have gen : ∀ n (b : List α), b.length = n → Srt lt (ssort lt b) := by
    intro n
    induction n with
    | zero =>
      intro b hb
      have : b = [] := List.eq_nil_of_length_eq_zero hb
      subst this; exact List.Pairwise.nil
    | succ n ih =>
      intro b hb
      obtain ⟨b', x, rfl⟩ : ∃ b' x, b = b' ++ [x] := ⟨b.dropLast, b.getLast (by intro e; subst e; simp at hb), (List.dropLast_concat_getLast _).symm⟩
      rw [ssort_snoc]
      exact mrg_srt hS _ _ (ih b' (by simpa using hb)) (List.pairwise_singleton _ _)
  exact gen _ w rfl
theorem ssort_length (w : List α) : (ssort lt w).length = w.length := by
  have gen : ∀ n (b : List α), b.length = n → (ssort lt b).length = n := by
    intro n
    induction n with
    | zero =>
      intro b hb
      have : b = [] := List.eq_nil_of_length_eq_zero hb
      subst this; rfl
    | succ n ih =>
      intro b hb
      obtain ⟨b', x, rfl⟩ : ∃ b' x, b = b' ++ [x] := ⟨b.dropLast, b.getLast (by intro e; subst e; simp at hb), (List.dropLast_concat_getLast _).symm⟩
      rw [ssort_snoc, mrg_length, ih b' (by simpa using hb)]; rfl
  exact gen _ w rfl
/-- Blocks of B, each sorted. -/
def blocks (lt : α → α → Bool) (B : Nat) (w : List α) : List α := if h : w.length ≤ B ∨ B = 0 then ssort lt w else ssort lt (w.take B) ++ blocks lt B (w.drop B)
termination_by w.length
decreasing_by simp; omega
theorem blocks_small {B : Nat} {w : List α} (h : w.length ≤ B) : blocks lt B w = ssort lt w := by rw [blocks, dif_pos (.inl h)]
theorem blocks_big {B : Nat} {w : List α} (h : B < w.length) (h0 : 0 < B) : blocks lt B w = ssort lt (w.take B) ++ blocks lt B (w.drop B) := by rw [blocks, dif_neg (by omega)]
theorem blocks_length (B : Nat) : ∀ (n : Nat) (w : List α), w.length = n → (blocks lt B w).length = n := by
  intro n
  induction n using Nat.strongRecOn with
  | _ n ih =>
    intro w hw
    rw [blocks]
    split
    · rw [ssort_length, hw]
    · rw [List.length_append, ssort_length, ih (w.drop B).length (by simp; omega) _ rfl]; simp; omega
end
end Go.Proofs.Ytbkmjmhoclflnaa.Fw
