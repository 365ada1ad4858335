/- Slice expressions, fields, indexes. -/
import Derived.Test.YtbkmjmhoclflnaaFw4
namespace Go.Proofs.Ytbkmjmhoclflnaa.Fw
open Go Go.RowKit
set_option linter.unusedVariables false
set_option linter.unusedSimpArgs false

section
variable {P : Program}

/-- How much capacity is surely there. -/
def imKnown (n : Nat) : Cap → Nat
  | .exact c => c
  | _ => n
def imCut (cap : Cap) (mx : Bool) (l h m n : Nat) : Cap := if mx then .exact (m - l) else match cap with
  | .exact c => .exact (c - l)
  | .tok t => if l = 0 ∧ h = n then .tok t else .ro
  | _ => .ro

theorem flat_drop {k : Nat} : ∀ {rows : List (List AV)}, (∀ r ∈ rows, r.length = k) → ∀ l, (rows.drop l).flatten = rows.flatten.drop (l * k)
  | [], _, l => by simp
  | r :: rows, h, 0 => by simp
  | r :: rows, h, l + 1 => by
    have h1 : r.length = k := h r (by simp)
    simp only [List.drop_succ_cons, List.flatten_cons, flat_drop (rows := rows) (fun x hx => h x (by simp [hx])) l]
    have e : r.drop ((l + 1) * k) = [] := List.drop_eq_nil_of_le (by rw [h1, Nat.add_mul]; omega)
    rw [List.drop_append, e, List.nil_append]
    congr 1
    rw [h1, Nat.add_mul]; omega
theorem flat_take {k : Nat} : ∀ {rows : List (List AV)}, (∀ r ∈ rows, r.length = k) → ∀ l, (rows.take l).flatten = rows.flatten.take (l * k)
  | [], _, l => by simp
  | r :: rows, h, 0 => by simp
  | r :: rows, h, l + 1 => by
    have h1 : r.length = k := h r (by simp)
    simp only [List.take_succ_cons, List.flatten_cons, flat_take (rows := rows) (fun x hx => h x (by simp [hx])) l]
    rw [List.take_append, List.take_of_length_le (l := r) (by rw [h1, Nat.add_mul]; omega)]
    congr 2
    rw [h1, Nat.add_mul]; omega

def aSlice (P : Program) (t : TypeId) (x : AV) (lo hi mx : Option AV) : Option AV :=
  match P.underlying t, x with
  | some (.array n e), .ptr i o => match tySize P e, aBounds n n lo hi mx with
    | some k, some (l, h, m) => some (.sl i (o + l * k) (h - l) (.exact (m - l)))
    | _, _ => none
  | some .string, .str s => if mx.isSome then none else match aBounds s.length s.length lo hi none with
    | some (l, h, _) => some (.str ((s.take h).drop l))
    | none => none
  | some (.slice e), .slNil => match tySize P e, aBounds 0 0 lo hi mx with
    | some _, some _ => some .slNil
    | _, _ => none
  | some (.slice e), .sl i o n (.exact c) => match tySize P e, aBounds n c lo hi mx with
    | some k, some (l, h, m) => some (.sl i (o + l * k) (h - l) (.exact (m - l)))
    | _, _ => none
  | some (.slice e), .sl i o n (.spare es) => match tySize P e, aBounds n n lo hi mx with
    | some k, some (l, h, m) => if es = k then some (.sl i (o + l * k) (h - l) (if mx.isSome then .exact (m - l) else .spare es)) else none
    | _, _ => none
  | some (.slice e), .sl i o n .ro => match tySize P e, aBounds n n lo hi mx with
    | some k, some (l, h, m) => some (.sl i (o + l * k) (h - l) (if mx.isSome then .exact (m - l) else .ro))
    | _, _ => none
  | some (.slice e), .im k rows cap => match tySize P e, aBounds rows.length (imKnown rows.length cap) lo hi mx with
    | some k', some (l, h, m) => if k' = k ∧ h ≤ rows.length then some (.im k ((rows.take h).drop l) (imCut cap mx.isSome l h m rows.length)) else none
    | _, _ => none
  | _, _ => none

theorem extract_list (s : ByteArray) (l h : Nat) : (s.extract l h).data.toList = (s.data.toList.take h).drop l := by
  rw [ByteArray.data_extract, Array.toList_extract]
  simp [List.extract_eq_take_drop, List.drop_take]

theorem slice_runA {t e : TypeId} {k n c' l hh m' : Nat} {a : Option Addr} {lo' hi' mx' : Option Value} {w : World} (hu : P.underlying t = some (.slice e)) (hk : tySize P e = some k) (hr : (Instr.sliceBounds true n c' lo' hi' mx').run P w = .ok (l, hh, m') w) :
    (Instr.sliceAt t (.slice a n c') lo' hi' mx').run P w = .ok (.slice (if m' = l then a else a.map (·.add (l * k))) (hh - l) (m' - l)) w := by
  simp only [Instr.sliceAt, Sem.run_bind, run_underlying hu, Result.andThen_ok, Instr.slice, hr, run_sizeOf' hk]
  rfl

/-- A stretch of a frozen slice. -/
theorem im_slice {μ : Ren} {k : Nat} {rows : List (List AV)} {cap : Cap} {x' : Value} {e t : TypeId} {lo hi mx : Option AV} {lo' hi' mx' : Option Value} (hx : VR μ (.im k rows cap) x') (hlo : VRo μ lo lo') (hhi : VRo μ hi hi') (hmx : VRo μ mx mx') (hu : P.underlying t = some (.slice e)) (hk : tySize P e = some k)
    {l h m : Nat} (hb : aBounds rows.length (imKnown rows.length cap) lo hi mx = some (l, h, m)) (hh : h ≤ rows.length) (w : World) : ∃ v', (Instr.sliceAt t x' lo' hi' mx').run P w = .ok v' w ∧ VR μ (.im k ((rows.take h).drop l) (imCut cap mx.isSome l h m rows.length)) v' := by
  have hc' : ∃ a c', x' = .slice a rows.length c' ∧ imKnown rows.length cap ≤ c' ∧ rows.length ≤ imKnown rows.length cap ∧ (∀ c, cap = .exact c → c' = c) ∧ (a = none → c' = 0) := by
    cases hx with
    | im hf hv hk2 hn hc =>
      rename_i b off c' cs
      refine ⟨_, c', rfl, ?_, ?_, fun c e => (by subst e; exact hc), fun e => (by cases e)⟩
      · cases cap <;> simp only [imKnown] <;> first | exact hn | exact Nat.le_of_eq hc.symm
      · cases cap <;> simp only [imKnown] <;> first | exact Nat.le_refl _ | (have hc' : c' = _ := hc; omega)
    | imE hc hz =>
      rename_i c' a
      refine ⟨_, c', rfl, ?_, ?_, fun c e => (by subst e; exact hc), hz⟩
      · cases cap <;> simp only [imKnown, List.length_nil] <;> first | exact Nat.zero_le _ | exact Nat.le_of_eq (Eq.symm hc)
      · simp
  obtain ⟨a, c', rfl, hc1, hc2, hc3, hz0⟩ := hc'
  obtain ⟨r1, r2, r3, r4, r5⟩ := aBounds_sim (P := P) (isS := true) (cap' := c') hlo hhi hmx hc1 hb hc2 w
  refine ⟨_, slice_runA hu hk r1, ?_⟩
  generalize hM : (if mx.isSome then m else c') = M at *
  have hMm : m ≤ M := by subst hM; split <;> omega
  have hlen : ((rows.take h).drop l).length = h - l := by simp; omega
  have hcut : ∀ c2, imCut cap mx.isSome l h m rows.length = .exact c2 → M - l = c2 := by
    intro c2 e
    subst hM
    unfold imCut at e
    split at e
    · rename_i hs; rw [if_pos hs]; cases e; rfl
    · rename_i hs
      rw [if_neg hs]
      cases cap with
      | exact c => simp only at e; cases e; rw [hc3 c rfl]
      | tok t => simp only at e; split at e <;> cases e
      | ro => cases e
      | spare s => cases e
  -- whole, with the token
  by_cases htok : ∃ t, imCut cap mx.isSome l h m rows.length = .tok t
  · obtain ⟨t, ht⟩ := htok
    have : cap = .tok t ∧ l = 0 ∧ h = rows.length ∧ mx.isSome = false := by
      unfold imCut at ht
      split at ht
      · cases ht
      · rename_i hs
        cases cap <;> simp only at ht <;> try (cases ht; done)
        split at ht
        · rename_i h2; cases ht; exact ⟨rfl, h2.1, h2.2, by simpa using hs⟩
        · cases ht
    obtain ⟨rfl, rfl, rfl, hs⟩ := this
    rw [ht]
    simp only [hs, Bool.false_eq_true, if_false] at hM
    subst hM
    simp only [List.take_length, List.drop_zero, Nat.sub_zero, Nat.zero_mul]
    have : (if c' = 0 then a else Option.map (fun x => x.add 0) a) = a := by
      split
      · rfl
      · cases a <;> simp [Addr.add]
    rw [this]
    exact hx
  · have hE : h = l → VR μ (.im k ((rows.take h).drop l) (imCut cap mx.isSome l h m rows.length)) (.slice (if M = l then a else a.map (·.add (l * k))) (h - l) (M - l)) := by
      intro e
      have e0 : (rows.take h).drop l = [] := List.eq_nil_of_length_eq_zero (by rw [hlen]; omega)
      rw [e0, show h - l = 0 by omega]
      refine .imE ?_ ?_
      rotate_left
      · intro en
        have : a = none := by
          split at en
          · exact en
          · cases a <;> simp at en ⊢
        have hc0 := hz0 this
        have : M ≤ c' := by subst hM; split <;> omega
        omega
      cases hcc : imCut cap mx.isSome l h m rows.length with
      | exact c2 => exact hcut c2 hcc
      | ro => trivial
      | tok t => exact absurd ⟨t, hcc⟩ htok
      | spare s =>
        exfalso
        unfold imCut at hcc
        split at hcc
        · cases hcc
        · cases cap <;> simp only at hcc <;> (try (cases hcc; done))
          split at hcc <;> cases hcc
    by_cases e : h = l
    · exact hE e
    have hMl : M ≠ l := by omega
    rw [if_neg hMl]
    cases hx with
    | imE hc hz => simp at hh; omega
    | im hf hv hk2 hn hc =>
      rename_i b off cs
      have hcl : cs.length = rows.length * k := by rw [← hv.length, flat_len hk2]
      have hk3 : ∀ r ∈ rows.take h, r.length = k := fun r hr => hk2 r (List.mem_of_mem_take hr)
      have hflat : ((rows.take h).drop l).flatten = (rows.flatten.drop (l * k)).take ((h - l) * k) := by
        rw [flat_drop hk3, flat_take hk2, List.drop_take]
        congr 1
        rw [Nat.sub_mul]
      simp only [Option.map_some, add_none]
      have := @VR.im μ k b (off + l * k) (M - l) ((rows.take h).drop l) (imCut cap mx.isSome l h m rows.length) ((cs.drop (l * k)).take ((h - l) * k))
        (by
          rcases hf.part (l * k) ((h - l) * k) with h1 | h1
          · exact h1
          · rw [hcl] at h1
            have := Nat.mul_le_mul_right k (show l ≤ rows.length by omega)
            omega)
        (by rw [hflat]; exact (hv.drop _).take _)
        (fun r hr => hk3 r (List.mem_of_mem_drop hr)) (by rw [hlen]; omega)
        (by
          cases hcc : imCut cap mx.isSome l h m rows.length with
          | exact c2 => exact hcut c2 hcc
          | ro => trivial
          | tok t => exact absurd ⟨t, hcc⟩ htok
          | spare s =>
            exfalso
            unfold imCut at hcc
            split at hcc
            · cases hcc
            · cases cap <;> simp only at hcc <;> (try (cases hcc; done))
              split at hcc <;> cases hcc)
      rw [hlen] at this
      exact this

theorem slice_run {t e : TypeId} {k b off' n c' l hh m' : Nat} {lo' hi' mx' : Option Value} {w : World} (hu : P.underlying t = some (.slice e)) (hk : tySize P e = some k) (hr : (Instr.sliceBounds true n c' lo' hi' mx').run P w = .ok (l, hh, m') w) :
    (Instr.sliceAt t (.slice (some ⟨b, off', none⟩) n c') lo' hi' mx').run P w = .ok (.slice (some (if m' = l then ⟨b, off', none⟩ else ⟨b, off' + l * k, none⟩)) (hh - l) (m' - l)) w := by
  simp only [Instr.sliceAt, Sem.run_bind, run_underlying hu, Result.andThen_ok, Instr.slice, hr, run_sizeOf' hk]
  show Result.ok _ _ = _
  split <;> simp [add_none]

theorem aSlice_sim {μ : Ren} {t : TypeId} {x v : AV} {x' : Value} {lo hi mx : Option AV} {lo' hi' mx' : Option Value} (hx : VR μ x x') (hlo : VRo μ lo lo') (hhi : VRo μ hi hi') (hmx : VRo μ mx mx')
    (h : aSlice P t x lo hi mx = some v) (w : World) : ∃ v', (Instr.sliceAt t x' lo' hi' mx').run P w = .ok v' w ∧ VR μ v v' := by
  unfold aSlice at h
  split at h
  · rename_i n e i o hu
    split at h
    · rename_i k l hh m hk hb
      cases h
      cases hx with
      | ptr hi0 =>
        rename_i L
        obtain ⟨r1, r2, r3, r4, r5⟩ := aBounds_sim (P := P) (isS := false) hlo hhi hmx (Nat.le_refl n) hb (Nat.le_refl n) w
        have e0 : ∀ w, (Instr.sureAddr (.pointer (some ⟨L.b, L.d + o, none⟩))).run P w = .ok ⟨L.b, L.d + o, none⟩ w := fun _ => rfl
        have em : (if mx.isSome then m else n) = m := by
          cases mx with
          | none => simp [r5 rfl]
          | some _ => rfl
        rw [em] at r1
        refine ⟨.slice (some (if m = l then ⟨L.b, L.d + o, none⟩ else (⟨L.b, L.d + o, none⟩ : Addr).add (l * k))) (hh - l) (m - l), ?_, ?_⟩
        · simp only [Instr.sliceAt, Sem.run_bind, run_underlying hu, Result.andThen_ok, e0, r1, run_sizeOf' hk]
          rfl
        · split
          · rename_i e2
            exact .sl hi0 (by omega) ⟨rfl, .inl (by omega)⟩
          · rw [add_none]
            exact .sl hi0 (by omega) ⟨rfl, .inr (by omega)⟩
    · cases h
  · rename_i s hu
    split at h
    · cases h
    · rename_i hms
      have hmn : mx = none := by cases mx <;> simp_all
      subst hmn
      cases hmx
      split at h
      · rename_i l hh m hb
        cases h
        cases hx with
        | str es =>
          rename_i s'
          subst es
          have hsz : s'.data.toList.length = s'.size := Array.length_toList
          rw [hsz] at hb
          obtain ⟨r1, r2, r3, r4, r5⟩ := aBounds_sim (P := P) (isS := false) hlo hhi .none (Nat.le_refl _) hb (Nat.le_refl _) w
          refine ⟨.string (s'.extract l hh), ?_, .str (extract_list s' l hh)⟩
          simp only [Option.isSome_none, Bool.false_eq_true, if_false] at r1
          simp only [Instr.sliceAt, Sem.run_bind, run_underlying hu, Result.andThen_ok, Instr.slice, Option.isSome_none, Bool.false_eq_true, if_false, Sem.run_pure, r1]
      · cases h
  · rename_i e hu
    split at h
    · rename_i k r hk hb
      obtain ⟨l, hh, m⟩ := r
      cases h
      cases hx
      obtain ⟨r1, r2, r3, r4, r5⟩ := aBounds_sim (P := P) (isS := true) hlo hhi hmx (Nat.le_refl _) hb (Nat.le_refl _) w
      have e1 : m = 0 := by omega
      have e2 : hh = 0 := by omega
      have e3 : l = 0 := by omega
      subst e1; subst e2; subst e3
      refine ⟨.slice none 0 0, ?_, .slNil⟩
      simp only [ite_self] at r1
      simp only [Instr.sliceAt, Sem.run_bind, run_underlying hu, Result.andThen_ok, Instr.slice, r1, run_sizeOf' hk]
      rfl
    · cases h
  · rename_i e i o n c hu
    obtain ⟨L, off', c', rfl, hi0, hn, hc, hoff⟩ := VR_sl_addr hx
    split at h
    · rename_i k l hh m hk hb
      cases h
      obtain ⟨hc1, hc2⟩ := hc
      subst hc1
      obtain ⟨r1, r2, r3, r4, r5⟩ := aBounds_sim (P := P) (isS := true) (cap' := c') hlo hhi hmx (Nat.le_refl _) hb hn w
      have em : (if mx.isSome then m else c') = m := by
        cases mx with
        | none => simp [r5 rfl]
        | some _ => rfl
      rw [em] at r1
      refine ⟨_, slice_run hu hk r1, ?_⟩
      split
      · exact .sl hi0 (by omega) ⟨rfl, .inl (by omega)⟩
      · rename_i hne
        have : off' = L.d + o := hc2.resolve_left (by omega)
        subst this
        exact .sl hi0 (by omega) ⟨rfl, .inr (by omega)⟩
    · cases h
  · rename_i e i o n es hu
    obtain ⟨L, off', c', rfl, hi0, hn, hc, hoff⟩ := VR_sl_addr hx
    split at h
    · rename_i k l hh m hk hb
      obtain ⟨r1, r2, r3, r4, r5⟩ := aBounds_sim (P := P) (isS := true) (cap' := c') hlo hhi hmx hn hb (Nat.le_refl _) w
      split at h
      · rename_i hes
        subst hes
        cases h
        cases hmm : mx.isSome with
        | true =>
          rw [hmm] at r1
          refine ⟨_, slice_run hu hk (by simpa using r1), ?_⟩
          simp only [if_true]
          split
          · exact .sl hi0 (by omega) ⟨rfl, .inl (by omega)⟩
          · rename_i hne
            have : off' = L.d + o := (hc.resolve_left (by omega)).1
            subst this
            exact .sl hi0 (by omega) ⟨rfl, .inr (by omega)⟩
        | false =>
          rw [hmm] at r1
          refine ⟨_, slice_run hu hk (by simpa using r1), ?_⟩
          simp only [Bool.false_eq_true, if_false]
          split
          · exact .sl hi0 (by omega) (.inl (by omega))
          · rename_i hne
            obtain ⟨h1, h2⟩ := hc.resolve_left (by omega)
            subst h1
            refine .sl hi0 (by omega) (.inr ⟨by omega, ?_⟩)
            have : (c' - l) * es + l * es = c' * es := by rw [← Nat.add_mul]; congr 1; omega
            omega
      · cases h
    · cases h
  · rename_i e i o n hu
    obtain ⟨L, off', c', rfl, hi0, hn, hc, hoff⟩ := VR_sl_addr hx
    split at h
    · rename_i k l hh m hk hb
      obtain ⟨r1, r2, r3, r4, r5⟩ := aBounds_sim (P := P) (isS := true) (cap' := c') hlo hhi hmx hn hb (Nat.le_refl _) w
      cases h
      cases hmm : mx.isSome with
      | true =>
        rw [hmm] at r1
        refine ⟨_, slice_run hu hk (by simpa using r1), ?_⟩
        simp only [if_true]
        split
        · exact .sl hi0 (by omega) ⟨rfl, .inl (by omega)⟩
        · rename_i hne
          have : off' = L.d + o := hc.resolve_left (by omega)
          subst this
          exact .sl hi0 (by omega) ⟨rfl, .inr (by omega)⟩
      | false =>
        rw [hmm] at r1
        refine ⟨_, slice_run hu hk (by simpa using r1), ?_⟩
        simp only [Bool.false_eq_true, if_false]
        split
        · exact .sl hi0 (by omega) (.inl (by omega))
        · rename_i hne
          have : off' = L.d + o := hc.resolve_left (by omega)
          subst this
          exact .sl hi0 (by omega) (.inr (by omega))
    · cases h
  · rename_i e k rows cap hu
    split at h
    · rename_i k' l hh m hk hb
      split at h
      · rename_i hc
        obtain ⟨rfl, hc⟩ := hc
        cases h
        exact im_slice hx hlo hhi hmx hu hk hb hc w
      · cases h
    · cases h
  · cases h

/-! ### Fields, elements -/
def aPart (P : Program) (t : TypeId) (cs : List AV) (off : Nat) : Option AV :=
  match tyAgg P t with
  | some true => match tySize P t with
    | some k => some (.agg ((cs.drop off).take k))
    | none => none
  | some false => cs[off]?
  | none => none

theorem aPart_sim {μ : Ren} {t : TypeId} {cs : List AV} {cs' : Array Value} (hc : VRs μ cs cs'.toList) {off : Nat} {v : AV} (h : aPart P t cs off = some v) (w : World) : ∃ v', (part t cs' off).run P w = .ok v' w ∧ VR μ v v' := by
  unfold aPart at h
  split at h
  · rename_i ha
    split at h
    · rename_i k hk
      cases h
      refine ⟨.agg (cs'.extract off (off + k)), ?_, .agg ?_⟩
      · simp only [part, Sem.run_bind, run_isAgg' ha, Result.andThen_ok, if_true, run_sizeOf' hk]; rfl
      · rw [Array.toList_extract, List.extract_eq_take_drop]
        simpa using (hc.drop off).take k
    · cases h
  · rename_i ha
    obtain ⟨v', h1, h2⟩ := hc.get h
    refine ⟨v', ?_, h2⟩
    simp only [part, Sem.run_bind, run_isAgg' ha, Result.andThen_ok, Bool.false_eq_true, if_false]
    rw [show cs'[off]? = some v' by simpa using h1]
    rfl
  · cases h

def aFieldAddr (P : Program) (s : TypeId) (v : AV) (f : Nat) : Option AV :=
  match P.underlying s, v with
  | some (.struct fs), .ptr i o => match fs[f]? with
    | some fd => match tySize P fd.type with
      | some k => if k = 0 then none else some (.ptr i (o + fd.offset))
      | none => none
    | none => none
  | some (.struct fs), .imp r o => match fs[f]? with
    | some fd => match tySize P fd.type with
      | some k => if k = 0 then none else some (.imp r (o + fd.offset))
      | none => none
    | none => none
  | _, _ => none

theorem aFieldAddr_sim {μ : Ren} {s : TypeId} {v x : AV} {v' : Value} (hv : VR μ v v') {f : Nat} (h : aFieldAddr P s v f = some x) (w : World) : ∃ x', (Instr.fieldAt s v' f).run P w = .ok x' w ∧ VR μ x x' := by
  unfold aFieldAddr at h
  split at h
  · rename_i fs i o hu
    split at h
    · rename_i fd hf
      split at h
      · rename_i k hk
        split at h
        · cases h
        · rename_i hk0
          cases h
          cases hv with
          | ptr hi =>
            rename_i L
            refine ⟨.pointer (some ⟨L.b, L.d + (o + fd.offset), none⟩), ?_, .ptr hi⟩
            simp only [Instr.fieldAt, Sem.run_bind, run_underlying hu, Result.andThen_ok, hf, Instr.sureAddr, Sem.run_pure, fieldPlace, run_sizeOf' hk, if_neg hk0, add_none, Nat.add_assoc]
      · cases h
    · cases h
  · rename_i fs r o hu
    split at h
    · rename_i fd hf
      split at h
      · rename_i k hk
        split at h
        · cases h
        · rename_i hk0
          cases h
          cases hv with
          | imp hf2 hv2 =>
            rename_i b off cs
            refine ⟨.pointer (some ⟨b, off + (o + fd.offset), none⟩), ?_, .imp hf2 hv2⟩
            simp only [Instr.fieldAt, Sem.run_bind, run_underlying hu, Result.andThen_ok, hf, Instr.sureAddr, Sem.run_pure, fieldPlace, run_sizeOf' hk, if_neg hk0, add_none, Nat.add_assoc]
      · cases h
    · cases h
  · cases h

def aField (P : Program) (s : TypeId) (v : AV) (f : Nat) : Option AV :=
  match P.underlying s, v with
  | some (.struct fs), .agg cs => match fs[f]? with
    | some fd => aPart P fd.type cs fd.offset
    | none => none
  | _, _ => none

theorem aField_sim {μ : Ren} {s : TypeId} {v x : AV} {v' : Value} (hv : VR μ v v') {f : Nat} (h : aField P s v f = some x) (w : World) : ∃ x', (Instr.field s v' f).run P w = .ok x' w ∧ VR μ x x' := by
  unfold aField at h
  split at h
  · rename_i fs cs hu
    split at h
    · rename_i fd hf
      cases hv with
      | agg hc =>
        obtain ⟨x', h1, h2⟩ := aPart_sim hc h w
        refine ⟨x', ?_, h2⟩
        simp only [Instr.field, Sem.run_bind, run_underlying hu, Result.andThen_ok, hf, asAgg, Sem.run_pure, h1]
    · cases h
  · cases h

def aIndexAddr (P : Program) (t : TypeId) (x ix : AV) : Option AV :=
  match P.underlying t, x, aInt ix with
  | some (.array n e), .ptr i o, some j => match tySize P e with
    | some k => if 0 ≤ j ∧ j < n then some (.ptr i (o + j.toNat * k)) else none
    | none => none
  | some (.slice e), .sl i o n _, some j => match tySize P e with
    | some k => if 0 ≤ j ∧ j < n then some (.ptr i (o + j.toNat * k)) else none
    | none => none
  | some (.array n e), .imp r o, some j => match tySize P e with
    | some k => if 0 ≤ j ∧ j < n then some (.imp r (o + j.toNat * k)) else none
    | none => none
  | some (.slice e), .im k rows _, some j => if tySize P e = some k ∧ 0 ≤ j then (rows[j.toNat]?).map fun r => .imp r 0 else none
  | _, _, _ => none

theorem asIntOf_sim {μ : Ren} {v : AV} {v' : Value} (hv : VR μ v v') {i : Int} (hi : aInt v = some i) : ∃ k, v' = .int k i := by
  cases v <;> simp [aInt] at hi
  subst hi
  cases hv
  exact ⟨_, rfl⟩

theorem aIndexAddr_sim {μ : Ren} {t : TypeId} {x ix v : AV} {x' ix' : Value} (hx : VR μ x x') (hix : VR μ ix ix') (h : aIndexAddr P t x ix = some v) (w : World) : ∃ v', (Instr.indexAt t x' ix').run P w = .ok v' w ∧ VR μ v v' := by
  unfold aIndexAddr at h
  split at h
  · rename_i n e i o j hu hj
    obtain ⟨q, rfl⟩ := asIntOf_sim hix hj
    split at h
    · rename_i k hk
      split at h
      · rename_i hb
        cases h
        cases hx with
        | ptr hi =>
          rename_i L
          refine ⟨.pointer (some ⟨L.b, L.d + (o + j.toNat * k), none⟩), ?_, .ptr hi⟩
          simp only [Instr.indexAt, asIntOf, Sem.run_bind, Sem.run_pure, run_underlying hu, Result.andThen_ok, Instr.sureAddr, hb, and_self, if_true, run_sizeOf' hk, add_none, Nat.add_assoc]
      · cases h
    · cases h
  · rename_i e i o n cap j hu hj
    obtain ⟨q, rfl⟩ := asIntOf_sim hix hj
    split at h
    · rename_i k hk
      split at h
      · rename_i hb
        cases h
        obtain ⟨L, off', c', rfl, hi0, hn, hc, hoff⟩ := VR_sl_addr hx
        have := hoff (by omega)
        subst this
        refine ⟨.pointer (some ⟨L.b, L.d + (o + j.toNat * k), none⟩), ?_, .ptr hi0⟩
        simp only [Instr.indexAt, asIntOf, Sem.run_bind, Sem.run_pure, run_underlying hu, Result.andThen_ok, Instr.sureAddr, hb, and_self, if_true, run_sizeOf' hk, add_none, Nat.add_assoc]
      · cases h
    · cases h
  · rename_i n e r o j hu hj
    obtain ⟨q, rfl⟩ := asIntOf_sim hix hj
    split at h
    · rename_i k hk
      split at h
      · rename_i hb
        cases h
        cases hx with
        | imp hf hv =>
          rename_i b off cs
          refine ⟨.pointer (some ⟨b, off + (o + j.toNat * k), none⟩), ?_, .imp hf hv⟩
          simp only [Instr.indexAt, asIntOf, Sem.run_bind, Sem.run_pure, run_underlying hu, Result.andThen_ok, Instr.sureAddr, hb, and_self, if_true, run_sizeOf' hk, add_none, Nat.add_assoc]
      · cases h
    · cases h
  · rename_i e k rows cap j hu hj
    obtain ⟨q, rfl⟩ := asIntOf_sim hix hj
    split at h
    · rename_i hc
      obtain ⟨hk, h0⟩ := hc
      cases hr : rows[j.toNat]? with
      | none => simp [hr] at h
      | some r =>
        simp only [hr, Option.map_some, Option.some.injEq] at h
        subst h
        have hlt := (List.getElem?_eq_some_iff.1 hr).1
        have hb : 0 ≤ j ∧ j < (rows.length : Int) := ⟨h0, by omega⟩
        cases hx with
        | imE hc hz => simp at hlt
        | im hf hv hk2 hn hc =>
          rename_i b off c' cs
          have hcl : cs.length = rows.length * k := by rw [← hv.length, flat_len hk2]
          have hle : (j.toNat + 1) * k ≤ rows.length * k := Nat.mul_le_mul_right k hlt
          rw [Nat.add_mul] at hle
          have hrow : r = (rows.flatten.drop (j.toNat * k)).take k := by
            rw [← flat_drop hk2, List.drop_eq_getElem_cons hlt]
            have e1 : rows[j.toNat] = r := by have := List.getElem?_eq_getElem hlt; rw [hr] at this; exact (Option.some.inj this).symm
            have e2 : r.length = k := hk2 r (List.mem_of_getElem? hr)
            rw [e1, List.flatten_cons, List.take_append, List.take_of_length_le (by omega), e2]
            simp
          refine ⟨.pointer (some ⟨b, off + j.toNat * k + 0, none⟩), ?_, .imp (cs := (cs.drop (j.toNat * k)).take k) ?_ (by rw [hrow]; exact (hv.drop _).take _)⟩
          · simp only [Instr.indexAt, asIntOf, Sem.run_bind, Sem.run_pure, run_underlying hu, Result.andThen_ok, Instr.sureAddr, hb, and_self, if_true, run_sizeOf' hk, add_none, Nat.add_assoc, Nat.add_zero]
          · rcases hf.part (j.toNat * k) k with h1 | h1
            · exact h1
            · omega
    · cases h
  · cases h

def aIndex (P : Program) (t : TypeId) (x ix : AV) : Option AV :=
  match P.underlying t, x, aInt ix with
  | some (.array n e), .agg cs, some j => match tySize P e with
    | some k => if 0 ≤ j ∧ j < n then aPart P e cs (j.toNat * k) else none
    | none => none
  | some .string, .str s, some j => if 0 ≤ j then (match s[j.toNat]? with
      | some b => some (.int .u8 b.toNat)
      | none => none) else none
  | _, _, _ => none

theorem aIndex_sim {μ : Ren} {t : TypeId} {x ix v : AV} {x' ix' : Value} (hx : VR μ x x') (hix : VR μ ix ix') (h : aIndex P t x ix = some v) (w : World) : ∃ v', (Instr.index t x' ix').run P w = .ok v' w ∧ VR μ v v' := by
  unfold aIndex at h
  split at h
  · rename_i n e cs j hu hj
    obtain ⟨q, rfl⟩ := asIntOf_sim hix hj
    split at h
    · rename_i k hk
      split at h
      · rename_i hb
        cases hx with
        | agg hc =>
          obtain ⟨v', h1, h2⟩ := aPart_sim hc h w
          refine ⟨v', ?_, h2⟩
          simp only [Instr.index, asIntOf, Sem.run_bind, Sem.run_pure, run_underlying hu, Result.andThen_ok, hb, and_self, if_true, run_sizeOf' hk, h1, Sem.run_ite]
      · cases h
    · cases h
  · rename_i s j hu hj
    obtain ⟨q, rfl⟩ := asIntOf_sim hix hj
    split at h
    · rename_i hb
      split at h
      · rename_i b he
        cases h
        cases hx with
        | str es =>
          rename_i s'
          subst es
          refine ⟨.int .u8 b.toNat, ?_, .int _ _⟩
          have : s'[j.toNat]? = some b := by
            have h1 : s'.data[j.toNat]? = some b := by rw [← Array.getElem?_toList]; exact he
            have h2 := Array.getElem?_eq_some_iff.1 h1
            obtain ⟨h3, h4⟩ := h2
            rw [getElem?_pos s' j.toNat h3]
            exact congrArg some h4
          simp only [Instr.index, asIntOf, Sem.run_bind, Sem.run_pure, run_underlying hu, Result.andThen_ok, hb, if_true, this]
      · cases h
    · cases h
  · cases h

end
end Go.Proofs.Ytbkmjmhoclflnaa.Fw
