/- Merged at once is merged one by one. -/
import Derived.Test.YtbkmjmhoclflnaaF10
namespace Go.Proofs.Ytbkmjmhoclflnaa.Fw
open Go
set_option linter.unusedVariables false
set_option linter.unusedSimpArgs false
set_option maxRecDepth 20000

abbrev ltf (a b : FactD) : Bool := Sf.ltc cmpF a b
abbrev eqf (a b : FactD) : Bool := decide (cmpF a b = 0)
theorem eqf_iff {a b : FactD} : eqf a b = true ↔ a.key = b.key ∧ a.seq = b.seq := by unfold eqf; rw [decide_eq_true_iff]; exact cmpF_eq
theorem eqf_comm {a b : FactD} (h : eqf a b = true) : eqf b a = true := eqf_iff.2 ⟨(eqf_iff.1 h).1.symm, (eqf_iff.1 h).2.symm⟩
theorem eqf_ltl {a b c : FactD} (h : eqf a b = true) : ltf a c = ltf b c := by
  rw [Bool.eq_iff_iff, ltF, ltF, (eqf_iff.1 h).1, (eqf_iff.1 h).2]
theorem eqf_ltr {a b c : FactD} (h : eqf a b = true) : ltf c a = ltf c b := by
  rw [Bool.eq_iff_iff, ltF, ltF, (eqf_iff.1 h).1, (eqf_iff.1 h).2]
theorem eqf_eql {a b c : FactD} (h : eqf a b = true) : eqf a c = eqf b c := by
  rw [Bool.eq_iff_iff, eqf_iff, eqf_iff, (eqf_iff.1 h).1, (eqf_iff.1 h).2]
theorem tri {a b : FactD} (h : ltf a b = false) (h2 : eqf a b = false) : ltf b a = true := by
  have n1 : ¬ (Op.bytesLess a.key b.key = true ∨ (a.key = b.key ∧ b.seq < a.seq)) := fun q => absurd (h.symm.trans (ltF.2 q)) Bool.false_ne_true
  have n2 : ¬ (a.key = b.key ∧ a.seq = b.seq) := fun q => absurd (h2.symm.trans (eqf_iff.2 q)) Bool.false_ne_true
  refine ltF.2 ?_
  cases h3 : Op.bytesLess b.key a.key with
  | true => exact .inl rfl
  | false =>
    have hk : a.key = b.key := blt_conn (by simpa using fun q => n1 (.inl q)) h3
    refine .inr ⟨hk.symm, ?_⟩
    have q1 : ¬ b.seq < a.seq := fun q => n1 (.inr ⟨hk, q⟩)
    have q2 : ¬ a.seq = b.seq := fun q => n2 ⟨hk, q⟩
    omega
theorem eqf_nlt {a b : FactD} (h : eqf a b = true) : ltf a b = false := by rw [eqf_ltl h]; exact swoF.irr b
theorem lt_neq {a b : FactD} (h : ltf a b = true) : eqf a b = false := by
  cases c : eqf a b with
  | false => rfl
  | true => have := eqf_nlt c; rw [this] at h; cases h
theorem gt_neq {a b : FactD} (h : ltf b a = true) : eqf a b = false := by
  cases c : eqf a b with
  | false => rfl
  | true => have := eqf_nlt (eqf_comm c); rw [this] at h; cases h

theorem ltf_iff {a b : FactD} : ltf a b = true ↔ cmpF a b < 0 := by show decide _ = true ↔ _; rw [decide_eq_true_iff]
theorem twoD_lt {x y : FactD} (a b : List FactD) (h : ltf x y = true) : twoD (x :: a) (y :: b) = x :: twoD a (y :: b) := by rw [twoD, if_pos (ltf_iff.1 h)]
theorem twoD_eq {x y : FactD} (a b : List FactD) (h : eqf x y = true) : twoD (x :: a) (y :: b) = x :: twoD a b := by
  have h1 : ¬ cmpF x y < 0 := fun q => absurd ((eqf_nlt h).symm.trans (ltf_iff.2 q)) Bool.false_ne_true
  rw [twoD, if_neg h1, if_pos (of_decide_eq_true h)]
theorem twoD_gt {x y : FactD} (a b : List FactD) (h : ltf y x = true) : twoD (x :: a) (y :: b) = y :: twoD (x :: a) b := by
  have h1 : ¬ cmpF x y < 0 := fun q => absurd ((swoF.asymm h).symm.trans (ltf_iff.2 q)) Bool.false_ne_true
  have h2 : ¬ cmpF x y = 0 := fun q => absurd ((gt_neq h).symm.trans (decide_eq_true q)) Bool.false_ne_true
  rw [twoD, if_neg h1, if_neg h2]
theorem twoD_nil1 (b : List FactD) : twoD [] b = b := by rw [twoD]

theorem twoD_assoc : ∀ (n : Nat) (a b c : List FactD), a.length + b.length + c.length = n → twoD (twoD a b) c = twoD a (twoD b c) := by
  intro n
  induction n using Nat.strongRecOn with
  | _ n ih =>
    intro a b c hn
    match a, b, c, hn with
    | [], b, c, _ => rw [twoD_nil1, twoD_nil1]
    | x :: a, [], c, _ => rw [twoD_nil, twoD_nil1]
    | x :: a, y :: b, [], _ => rw [twoD_nil, twoD_nil]
    | x :: a, y :: b, z :: c, hn =>
      simp only [List.length_cons] at hn
      cases hxy : ltf x y with
      | true =>
        rw [twoD_lt a b hxy]
        cases hxz : ltf x z with
        | true =>
          rw [twoD_lt _ c hxz, ih _ (by simp; omega) a (y :: b) (z :: c) rfl]
          cases hyz : ltf y z with
          | true => rw [twoD_lt b c hyz, twoD_lt a _ hxy]
          | false =>
            cases eyz : eqf y z with
            | true => rw [twoD_eq b c eyz, twoD_lt a _ hxy]
            | false => rw [twoD_gt b c (tri hyz eyz), twoD_lt a _ hxz]
        | false =>
          cases exz : eqf x z with
          | true =>
            have hzy : ltf z y = true := by rw [← eqf_ltl exz]; exact hxy
            rw [twoD_eq _ c exz, twoD_gt b c hzy, twoD_eq a _ exz, ih _ (by simp; omega) a (y :: b) c rfl]
          | false =>
            have hzx := tri hxz exz
            have hzy : ltf z y = true := swoF.trans hzx hxy
            rw [twoD_gt _ c hzx, twoD_gt b c hzy, twoD_gt a _ hzx, ← twoD_lt a b hxy, ih _ (by simp; omega) (x :: a) (y :: b) c rfl]
      | false =>
        cases exy : eqf x y with
        | true =>
          rw [twoD_eq a b exy]
          cases hyz : ltf y z with
          | true => rw [twoD_lt _ c (by rw [eqf_ltl exy]; exact hyz), twoD_lt b c hyz, twoD_eq a _ exy, ih _ (by simp; omega) a b (z :: c) rfl]
          | false =>
            cases eyz : eqf y z with
            | true => rw [twoD_eq _ c (by rw [eqf_eql exy]; exact eyz), twoD_eq b c eyz, twoD_eq a _ exy, ih _ (by omega) a b c rfl]
            | false =>
              have hzy := tri hyz eyz
              have hzx : ltf z x = true := by rw [eqf_ltr exy]; exact hzy
              rw [twoD_gt _ c hzx, twoD_gt b c hzy, twoD_gt a _ hzx, ← twoD_eq a b exy, ih _ (by simp; omega) (x :: a) (y :: b) c rfl]
        | false =>
          have hyx := tri hxy exy
          rw [twoD_gt a b hyx]
          cases hyz : ltf y z with
          | true => rw [twoD_lt _ c hyz, twoD_lt b c hyz, twoD_gt a _ hyx, ih _ (by simp; omega) (x :: a) b (z :: c) rfl]
          | false =>
            cases eyz : eqf y z with
            | true => rw [twoD_eq _ c eyz, twoD_eq b c eyz, twoD_gt a _ hyx, ih _ (by simp; omega) (x :: a) b c rfl]
            | false =>
              have hzy := tri hyz eyz
              rw [twoD_gt _ c hzy, twoD_gt b c hzy, twoD_gt a _ (swoF.trans hzy hyx), ← twoD_gt a b hyx, ih _ (by simp; omega) (x :: a) (y :: b) c rfl]

theorem twoD_mem {z : FactD} (a b : List FactD) (h : z ∈ twoD a b) : z ∈ a ∨ z ∈ b := by
  fun_induction twoD a b <;> (try simp_all) <;> grind

/-! ### Strictly in order -/
def Stc (l : List FactD) : Prop := l.Pairwise fun a b => ltf a b = true
theorem right_stc : ∀ {l : List FactD}, rightB l = true → Stc l
  | [], _ => .nil
  | [a], _ => List.pairwise_singleton _ _
  | a :: b :: r, h => by
    simp only [rightB, Bool.and_eq_true, decide_eq_true_eq] at h
    have hr := right_stc h.2
    have hab : ltf a b = true := ltf_iff.2 h.1
    refine List.pairwise_cons.2 ⟨fun z hz => ?_, hr⟩
    rcases List.mem_cons.1 hz with rfl | hz
    · exact hab
    · exact swoF.trans hab ((List.pairwise_cons.1 hr).1 z hz)
theorem stc_right : ∀ {l : List FactD}, Stc l → rightB l = true
  | [], _ => rfl
  | [a], _ => rfl
  | a :: b :: r, h => by
    have h' := List.pairwise_cons.1 h
    simp only [rightB, Bool.and_eq_true, decide_eq_true_eq]
    exact ⟨ltf_iff.1 (h'.1 b (by simp)), stc_right h'.2⟩
theorem stc_two (a b : List FactD) (ha : Stc a) (hb : Stc b) : Stc (twoD a b) := by
  have gen : ∀ (n : Nat) (a b : List FactD), a.length + b.length = n → Stc a → Stc b → Stc (twoD a b) := by
    intro n
    induction n using Nat.strongRecOn with
    | _ n ih =>
      intro a b hn ha hb
      match a, b with
      | [], b => rw [twoD_nil1]; exact hb
      | x :: a, [] => rw [twoD_nil]; exact ha
      | x :: a, y :: b =>
        simp only [List.length_cons] at hn
        have ha' := List.pairwise_cons.1 ha
        have hb' := List.pairwise_cons.1 hb
        cases hxy : ltf x y with
        | true =>
          rw [twoD_lt _ _ hxy]
          refine List.pairwise_cons.2 ⟨fun z hz => ?_, ih _ (by simp; omega) a (y :: b) rfl ha'.2 hb⟩
          rcases twoD_mem _ _ hz with hz | hz
          · exact ha'.1 z hz
          · rcases List.mem_cons.1 hz with rfl | hz
            · exact hxy
            · exact swoF.trans hxy (hb'.1 z hz)
        | false =>
          cases exy : eqf x y with
          | true =>
            rw [twoD_eq _ _ exy]
            refine List.pairwise_cons.2 ⟨fun z hz => ?_, ih _ (by omega) a b rfl ha'.2 hb'.2⟩
            rcases twoD_mem _ _ hz with hz | hz
            · exact ha'.1 z hz
            · rw [eqf_ltl exy]; exact hb'.1 z hz
          | false =>
            have hyx := tri hxy exy
            rw [twoD_gt _ _ hyx]
            refine List.pairwise_cons.2 ⟨fun z hz => ?_, ih _ (by simp; omega) (x :: a) b rfl ha hb'.2⟩
            rcases twoD_mem _ _ hz with hz | hz
            · rcases List.mem_cons.1 hz with rfl | hz
              · exact hyx
              · exact swoF.trans hyx (ha'.1 z hz)
            · exact hb'.1 z hz
  exact gen _ a b rfl ha hb

/-! ### Compacted -/
theorem compA_stc : ∀ {l : List FactD} {p : FactD}, (∀ x ∈ l, ltf p x = true) → Stc l → Sf.compA eqf p l = l
  | [], _, _, _ => rfl
  | y :: r, p, hp, h => by
    have h' := List.pairwise_cons.1 h
    have : eqf y p = false := gt_neq (hp y (by simp))
    simp only [Sf.compA, this, Bool.false_eq_true, if_false]
    rw [compA_stc h'.1 h'.2]
def dropp (p : FactD) : List FactD → List FactD
  | [] => []
  | y :: b => if eqf p y then b else y :: b
theorem dropp_gt {p : FactD} {b : List FactD} (h : ∀ y ∈ b, ltf p y = true) : dropp p b = b := by
  cases b with
  | nil => rfl
  | cons y b => simp only [dropp, lt_neq (h y (by simp)), Bool.false_eq_true, if_false]
theorem dropp_congr {p q : FactD} (h : eqf p q = true) (b : List FactD) : dropp p b = dropp q b := by
  cases b with
  | nil => rfl
  | cons y b => simp only [dropp, eqf_eql h]
theorem compA_lt {p y : FactD} {r : List FactD} (h : ltf p y = true) : Sf.compA eqf p (y :: r) = y :: Sf.compA eqf y r := by
  simp only [Sf.compA, gt_neq h, Bool.false_eq_true, if_false]
theorem compA_eq {p y : FactD} {r : List FactD} (h : eqf p y = true) : Sf.compA eqf p (y :: r) = Sf.compA eqf y r := by
  simp only [Sf.compA, eqf_comm h, if_true]

theorem le_lt {p x y : FactD} (h : ltf x p = false) (h2 : ltf x y = true) : ltf p y = true := by
  rcases swoF.neg (y := p) h2 with c | c
  · exact absurd (h.symm.trans c) Bool.false_ne_true
  · exact c

theorem compA_mrg : ∀ (n : Nat) (X b : List FactD) (p : FactD), X.length + b.length = n → Srt ltf (p :: X) → Stc b → (∀ y ∈ b, ltf y p = false) →
    Sf.compA eqf p (mrg ltf X b) = twoD (Sf.compA eqf p X) (dropp p b) := by
  intro n
  induction n using Nat.strongRecOn with
  | _ n ih =>
    intro X b p hn hX hb hp
    have hX' := List.pairwise_cons.1 hX
    match X, b with
    | [], b =>
      rw [mrg_nil]
      simp only [Sf.compA]
      rw [twoD_nil1]
      cases b with
      | nil => rfl
      | cons y b =>
        have hb' := List.pairwise_cons.1 hb
        cases e : eqf p y with
        | true => rw [compA_eq e, compA_stc hb'.1 hb'.2]; simp only [dropp, e, if_true]
        | false =>
          have h1 : ltf p y = true := by
            refine tri (hp y (by simp)) ?_
            cases c : eqf y p with
            | false => rfl
            | true => rw [eqf_comm c] at e; cases e
          rw [compA_lt h1, compA_stc hb'.1 hb'.2]; simp only [dropp, e, Bool.false_eq_true, if_false]
    | x :: a, [] => rw [mrg_nil']; simp only [dropp]; rw [twoD_nil]
    | x :: a, y :: b =>
      simp only [List.length_cons] at hn
      have hb' := List.pairwise_cons.1 hb
      have ha' := List.pairwise_cons.1 hX'.2
      have hpx := hX'.1 x (by simp)
      have hpy := hp y (by simp)
      have other : ∀ {u v : FactD}, eqf u v = false → eqf v u = false := by
        intro u v h
        cases c : eqf v u with
        | false => rfl
        | true => rw [eqf_comm c] at h; cases h
      cases hyx : ltf y x with
      | true =>
        rw [mrg_lt _ _ hyx]
        have hS : Srt ltf (y :: x :: a) := by
          refine List.pairwise_cons.2 ⟨fun z hz => ?_, hX'.2⟩
          rcases List.mem_cons.1 hz with rfl | hz
          · exact swoF.asymm hyx
          · exact swoF.ge (swoF.asymm hyx) (ha'.1 z hz)
        have hI := ih _ (by simp; omega) (x :: a) b y rfl hS hb'.2 (fun z hz => swoF.asymm (hb'.1 z hz))
        rw [dropp_gt hb'.1, compA_lt hyx] at hI
        cases e : eqf p y with
        | true =>
          rw [compA_eq e, hI, compA_lt (by rw [eqf_ltl e]; exact hyx)]
          simp only [dropp, e, if_true]
        | false =>
          have h1 : ltf p y = true := tri hpy (other e)
          rw [compA_lt h1, hI, compA_lt (swoF.trans h1 hyx)]
          simp only [dropp, e, Bool.false_eq_true, if_false]
          rw [twoD_gt _ _ hyx]
      | false =>
        rw [mrg_ge _ _ hyx]
        have hI := ih _ (by simp; omega) a (y :: b) x rfl hX'.2 hb (by
          intro z hz
          rcases List.mem_cons.1 hz with rfl | hz
          · exact hyx
          · exact swoF.ge hyx (swoF.asymm (hb'.1 z hz)))
        cases e : eqf p x with
        | true => rw [compA_eq e, hI, compA_eq e, dropp_congr e]
        | false =>
          have h1 : ltf p x = true := tri hpx (other e)
          have h2 : ltf p y = true := by
            rcases swoF.neg (y := y) h1 with c | c
            · exact c
            · exact absurd (hyx.symm.trans c) Bool.false_ne_true
          rw [compA_lt h1, hI, compA_lt h1]
          have e2 : dropp p (y :: b) = y :: b := by simp only [dropp, lt_neq h2, Bool.false_eq_true, if_false]
          rw [e2]
          cases e3 : eqf x y with
          | true => rw [twoD_eq _ _ e3]; simp only [dropp, e3, if_true]
          | false =>
            rw [twoD_lt _ _ (tri hyx (other e3))]; simp only [dropp, e3, Bool.false_eq_true, if_false]

theorem compD_mrg (X b : List FactD) (hX : Srt ltf X) (hb : Stc b) : Sf.compD eqf (mrg ltf X b) = twoD (Sf.compD eqf X) b := by
  match X, b with
  | [], [] => rw [mrg_nil]; simp only [Sf.compD]; rw [twoD_nil1]
  | [], y :: b =>
    have hb' := List.pairwise_cons.1 hb
    rw [mrg_nil]; simp only [Sf.compD]; rw [twoD_nil1, compA_stc hb'.1 hb'.2]
  | x :: a, [] => rw [mrg_nil', twoD_nil]
  | x :: a, y :: b =>
    have hb' := List.pairwise_cons.1 hb
    have hX' := List.pairwise_cons.1 hX
    cases hyx : ltf y x with
    | true =>
      rw [mrg_lt _ _ hyx]
      simp only [Sf.compD]
      have hS : Srt ltf (y :: x :: a) := by
        refine List.pairwise_cons.2 ⟨fun z hz => ?_, hX⟩
        rcases List.mem_cons.1 hz with rfl | hz
        · exact swoF.asymm hyx
        · exact swoF.ge (swoF.asymm hyx) (hX'.1 z hz)
      rw [compA_mrg _ (x :: a) b y rfl hS hb'.2 (fun z hz => swoF.asymm (hb'.1 z hz)), dropp_gt hb'.1, compA_lt hyx, twoD_gt _ _ hyx]
    | false =>
      rw [mrg_ge _ _ hyx]
      simp only [Sf.compD]
      rw [compA_mrg _ a (y :: b) x rfl hX hb (by
        intro z hz
        rcases List.mem_cons.1 hz with rfl | hz
        · exact hyx
        · exact swoF.ge hyx (swoF.asymm (hb'.1 z hz)))]
      cases e3 : eqf x y with
      | true => rw [twoD_eq _ _ e3]; simp only [dropp, e3, if_true]
      | false =>
        have : eqf y x = false := by
          cases c : eqf y x with
          | false => rfl
          | true => rw [eqf_comm c] at e3; cases e3
        rw [twoD_lt _ _ (tri hyx this)]; simp only [dropp, e3, Bool.false_eq_true, if_false]

theorem mrg_snoc {A : List FactD} {x : FactD} (h : ∀ a ∈ A, ltf x a = false) : mrg ltf A [x] = A ++ [x] := by
  have := mrg_one (lt := ltf) x A [] h (by simp)
  rwa [List.append_nil] at this
theorem ssort_id {l : List FactD} (h : Stc l) : ssort ltf l = l := by
  have gen : ∀ n (b : List FactD), b.length = n → Stc b → ssort ltf b = b := by
    intro n
    induction n with
    | zero =>
      intro b hb _
      have : b = [] := List.eq_nil_of_length_eq_zero hb
      subst this; rfl
    | succ n ih =>
      intro b hb hs
      obtain ⟨b', x, rfl⟩ : ∃ b' x, b = b' ++ [x] := ⟨b.dropLast, b.getLast (by intro e; subst e; simp at hb), (List.dropLast_concat_getLast _).symm⟩
      have hs' := List.pairwise_append.1 hs
      rw [ssort_snoc, ih b' (by simpa using hb) hs'.1]
      exact mrg_snoc fun a ha => swoF.asymm (hs'.2.2 a ha x (by simp))
  exact gen _ l rfl h

theorem mergeD_snoc (ls : List (List FactD)) (l : List FactD) (h : rightB l = true) : mergeD (ls ++ [l]) = twoD (mergeD ls) l := by
  unfold mergeD
  have e : (ls ++ [l]).flatten = ls.flatten ++ l := by simp
  rw [e, ← ssort_append swoF, ssort_id (right_stc h)]
  exact compD_mrg _ _ (ssort_srt swoF _) (right_stc h)
theorem mergeD_fold (ls : List (List FactD)) (h : allRight ls = true) : mergeD ls = ls.foldl twoD [] := by
  have gen : ∀ n (b : List (List FactD)), b.length = n → allRight b = true → mergeD b = b.foldl twoD [] := by
    intro n
    induction n with
    | zero =>
      intro b hb _
      have : b = [] := List.eq_nil_of_length_eq_zero hb
      subst this; rfl
    | succ n ih =>
      intro b hb hs
      obtain ⟨b', x, rfl⟩ : ∃ b' x, b = b' ++ [x] := ⟨b.dropLast, b.getLast (by intro e; subst e; simp at hb), (List.dropLast_concat_getLast _).symm⟩
      simp only [allRight, List.all_append, List.all_cons, List.all_nil, Bool.and_true, Bool.and_eq_true] at hs
      rw [mergeD_snoc _ _ hs.2, ih b' (by simpa using hb) hs.1]
      simp
  exact gen _ ls rfl h
end Go.Proofs.Ytbkmjmhoclflnaa.Fw
