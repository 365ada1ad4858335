/- Iterators, append, copy, clear. -/
import Derived.Test.YtbkmjmhoclflnaaFw9
namespace Go.Proofs.Ytbkmjmhoclflnaa.Fw
open Go Go.RowKit
set_option linter.unusedVariables false
set_option linter.unusedSimpArgs false

section
variable {P : Program}

/-! ### range, next -/
def aRange (P : Program) (t : TypeId) (x : AV) (σ : Store) : Option AObj :=
  match P.underlying t, x with
  | some .string, .str s => some (.sit s 0)
  | some (.map _ _), .mapNil => some (.mit none 0 [] 0)
  | some (.map _ _), .map i => match σ[i]? with
    | some (.map _ clock) => some (.mit (some i) clock [] clock)
    | _ => none
  | _, _ => none

theorem aRange_sim {w0 w : World} {μ : Ren} {σ : Store} (R : Rel w0 μ σ w) {t : TypeId} {x : AV} {x' : Value} (hx : VR μ x x') {o : AObj} (h : aRange P t x σ = some o) :
    ∃ v' w' μ', (Instr.range t x').run P w = .ok v' w' ∧ μ' = μ.push σ.length ⟨w.heap.size, 0, 0⟩ ∧ VR μ' (.ptr σ.length 0) v' ∧ Rel w0 μ' (σ ++ [o]) w' := by
  have hfr := R.fresh
  have hle := Ren.push_le (L := ⟨w.heap.size, 0, 0⟩) hfr
  have hw0 := R.below.size
  have fin : ∀ ob : Obj, o.isTok = false → ORel w0 (μ.push σ.length ⟨w.heap.size, 0, 0⟩) ⟨w.heap.size, 0, 0⟩ o { w with heap := w.heap.push ob } →
      Rel w0 (μ.push σ.length ⟨w.heap.size, 0, 0⟩) (σ ++ [o]) { w with heap := w.heap.push ob } := fun ob hot hob =>
    R.alloc hot (L := ⟨w.heap.size, 0, 0⟩) rfl (below_push w ob) (by simp) hob
  have hptr : VR (μ.push σ.length ⟨w.heap.size, 0, 0⟩) (.ptr σ.length 0) (.pointer (some ⟨w.heap.size, 0, none⟩)) := by
    simpa using VR.ptr (o := 0) (μ := μ.push σ.length ⟨w.heap.size, 0, 0⟩) (L := ⟨w.heap.size, 0, 0⟩) Ren.push_self
  unfold aRange at h
  split at h
  · rename_i s hu
    cases h
    cases hx with
    | str e =>
      rename_i s'
      refine ⟨_, { w with heap := w.heap.push (.stringIter s' 0) }, _, ?_, rfl, hptr, fin _ rfl ⟨hw0, rfl, s', by simp, e⟩⟩
      simp only [Instr.range, Sem.run_bind, run_underlying hu, Result.andThen_ok, Sem.run_pure, run_newObj]
  · rename_i kt et hu
    cases h
    cases hx
    refine ⟨_, { w with heap := w.heap.push (.mapIter none 0 #[] 0) }, _, ?_, rfl, hptr, fin _ rfl ⟨hw0, rfl, none, by simp, trivial⟩⟩
    simp only [Instr.range, Sem.run_bind, run_underlying hu, Result.andThen_ok, Sem.run_pure, run_newObj]
  · rename_i kt et i hu
    split at h
    · rename_i es clock e
      cases h
      cases hx with
      | map hi =>
        rename_i L
        obtain ⟨hge, ces, h2, h3⟩ := R.obj i L _ hi e
        refine ⟨_, { w with heap := w.heap.push (.mapIter (some L.b) clock #[] clock) }, _, ?_, rfl, hptr, fin _ rfl ⟨hw0, rfl, some L.b, by simp, L, hle.ren _ _ hi, rfl⟩⟩
        simp only [Instr.range, Sem.run_bind, run_underlying hu, Result.andThen_ok, run_getMap h2, Sem.run_pure, run_newObj]
    · cases h
  · cases h

/-- What may come next: each with the store behind it. -/
def aNext (it : AV) (isS : Bool) (σ : Store) : Option (List (AV × Store)) :=
  match it with
  | .ptr r 0 => match σ[r]?, isS with
    | some (.sit s pos), true => if pos < s.length then
        some [(.tup [.bool true, .int .i64 pos, .int .i32 (Utf8.decode ⟨⟨s⟩⟩ pos).1], σ.set r (.sit s (pos + (Utf8.decode ⟨⟨s⟩⟩ pos).2)))]
      else some [(.tup [.bool false], σ)]
    | some (.mit none _ _ _), false => some [(.tup [.bool false], σ)]
    | some (.mit (some m) since seen last), false => match σ[m]? with
      | some (.map es clock) =>
        if !seen.isEmpty && !es.isEmpty && es.all (fun e => e.2.2 ≥ last) then none else
        let left := es.filter fun e => !seen.contains e.2.2
        let old := left.filter fun e => e.2.2 < since
        let new := left.filter fun e => e.2.2 ≥ since
        some ((if old.isEmpty then [(.tup [.bool false], σ)] else []) ++ (old ++ new).map fun e => (.tup [.bool true, e.1, e.2.1], σ.set r (.mit (some m) since (seen ++ [e.2.2]) clock)))
      | _ => none
    | _, _ => none
  | _ => none

theorem MRs.filter {μ : Ren} (p : Nat → Bool) : ∀ {es : List (AV × AV × Nat)} {ces : List MapEntry}, MRs μ es ces → MRs μ (es.filter fun e => p e.2.2) (ces.filter fun e => p e.born)
  | _, _, .nil => .nil
  | _, _, .cons (b := b) hk hv t => by
    simp only [List.filter_cons]
    cases hb : p b
    · simpa [hb] using t.filter p
    · simpa [hb] using .cons hk hv (t.filter p)

theorem MRs.all {μ : Ren} (p : Nat → Bool) : ∀ {es : List (AV × AV × Nat)} {ces : List MapEntry}, MRs μ es ces → (es.all fun e => p e.2.2) = (ces.all fun e => p e.born)
  | _, _, .nil => rfl
  | _, _, .cons (b := b) hk hv t => by simp only [List.all_cons, t.all p]

theorem MRs.isEmpty {μ : Ren} : ∀ {es : List (AV × AV × Nat)} {ces : List MapEntry}, MRs μ es ces → es.isEmpty = ces.isEmpty
  | _, _, .nil => rfl
  | _, _, .cons _ _ _ => rfl

theorem MRs.length {μ : Ren} : ∀ {es : List (AV × AV × Nat)} {ces : List MapEntry}, MRs μ es ces → es.length = ces.length
  | _, _, .nil => rfl
  | _, _, .cons _ _ t => by simp [t.length]

theorem MRs.get' {μ : Ren} : ∀ {es : List (AV × AV × Nat)} {ces : List MapEntry}, MRs μ es ces → ∀ {j : Nat} {e : MapEntry}, ces[j]? = some e → ∃ k v, es[j]? = some (k, v, e.born) ∧ VR μ k e.key ∧ VR μ v e.val
  | _, _, .nil, _, _, h => by simp at h
  | _, _, .cons hk hv t, 0, _, h => by simp at h; subst h; exact ⟨_, _, rfl, hk, hv⟩
  | _, _, .cons hk hv t, j + 1, _, h => by
    obtain ⟨k, v, h1, h2⟩ := t.get' (j := j) (by simpa using h)
    exact ⟨k, v, by simpa using h1, h2⟩

theorem list_of_bytes (s' : ByteArray) : s' = ⟨⟨s'.data.toList⟩⟩ := by
  obtain ⟨⟨l⟩⟩ := s'
  rfl

theorem aNext_sim {w0 w : World} {μ : Ren} {σ : Store} (R : Rel w0 μ σ w) {it : AV} {it' : Value} (hit : VR μ it it') {isS : Bool} {ty : TypeId} {l : List (AV × Store)} (h : aNext it isS σ = some l) :
    ∃ v v' σ' w', (v, σ') ∈ l ∧ (Instr.next it' isS ty).run P w = .ok v' w' ∧ VR μ v v' ∧ Rel w0 μ σ' w' := by
  unfold aNext at h
  split at h
  · rename_i r
    cases hit with
    | ptr hi =>
      rename_i L
      split at h
      · rename_i s pos e
        obtain ⟨hge, hd, s', h2, h3⟩ := R.obj r L _ hi e
        have hobj : (getObj L.b).run P w = .ok (.stringIter s' pos) w := by simp [getObj, Sem.run, h2]
        have hsz : s'.size = s.length := by rw [← h3]; exact Array.length_toList.symm
        have hs' : s' = ⟨⟨s⟩⟩ := by rw [← h3]
        split at h
        · rename_i hp
          cases h
          have hset : (setObj L.b (.stringIter s' (pos + (Utf8.decode s' pos).2))).run P w = .ok () { w with heap := w.heap.setIfInBounds L.b (.stringIter s' (pos + (Utf8.decode s' pos).2)) } := by
            simp [setObj, Sem.run, h2]
          refine ⟨_, .tuple #[.bool true, .int .i64 pos, .int .i32 (Utf8.decode s' pos).1], _, { w with heap := w.heap.setIfInBounds L.b (.stringIter s' (pos + (Utf8.decode s' pos).2)) }, List.mem_singleton.2 rfl, ?_, ?_, ?_⟩
          rotate_left
          · rw [hs']
            exact .tup (.cons (.bool _) (.cons (.int _ _) (.cons (.int _ _) .nil)))
          · rw [← hs']
            exact R.upd (w' := { w with heap := w.heap.setIfInBounds L.b (.stringIter s' (pos + (Utf8.decode s' pos).2)) }) hi e rfl rfl rfl (fun q hq => setObj_other hq) (by simp) rfl rfl rfl ⟨hge, hd, s', setObj_self h2, h3⟩
          · rw [hd]
            simp only [Instr.next, Sem.run_bind, hobj, Result.andThen_ok, Nat.add_zero, hsz, hp, if_true, hset, Sem.run_pure, Sem.run_ite]
            rfl
        · rename_i hp
          cases h
          refine ⟨_, .tuple #[.bool false], _, w, List.mem_singleton.2 rfl, ?_, .tup (.cons (.bool _) .nil), R⟩
          rw [hd]
          simp only [Instr.next, Sem.run_bind, hobj, Result.andThen_ok, Nat.add_zero, hsz, hp, if_false, Sem.run_pure, Sem.run_ite]
      · rename_i e
        cases h
        obtain ⟨hge, hd, m', h2, h3⟩ := R.obj r L _ hi e
        cases m' with
        | some mb => exact h3.elim
        | none =>
          refine ⟨_, .tuple #[.bool false], _, w, List.mem_singleton.2 rfl, ?_, .tup (.cons (.bool _) .nil), R⟩
          rw [hd]
          have hobj := show (getObj L.b).run P w = _ from by simp only [getObj, Sem.run, h2]; rfl
          simp only [Instr.next, Sem.run_bind, hobj, Result.andThen_ok, Nat.add_zero, Sem.run_pure]
      · rename_i m since seen last e
        split at h
        · rename_i es clock em
          split at h
          · cases h
          · rename_i hcond
            obtain ⟨hge, hd, m', h2, h3⟩ := R.obj r L _ hi e
            cases m' with
            | none => exact h3.elim
            | some mb =>
              obtain ⟨Lm, h4, h5⟩ := h3
              subst h5
              obtain ⟨_, ces, h6, h7⟩ := R.obj m Lm _ h4 em
              have hobj : (getObj L.b).run P w = .ok (.mapIter (some Lm.b) since seen.toArray last) w := by simp only [getObj, Sem.run, h2]
              -- the candidates
              have hleft := h7.filter (fun b => !seen.contains b)
              have hold := hleft.filter (fun b => decide (b < since))
              have hnew := hleft.filter (fun b => decide (b ≥ since))
              have ce1 : (ces.filter fun e => !seen.toArray.contains e.born).toList = ces.toList.filter fun e => !seen.contains e.born := by
                rw [Array.toList_filter]
                congr 1
                funext e
                simp
              have cold : ((ces.filter fun e => !seen.toArray.contains e.born).filter fun x => decide (x.born < since)).toList = (ces.toList.filter fun e => !seen.contains e.born).filter fun x => decide (x.born < since) := by
                rw [Array.toList_filter, ce1]
              have cnew : ((ces.filter fun e => !seen.toArray.contains e.born).filter fun x => decide (x.born ≥ since)).toList = (ces.toList.filter fun e => !seen.contains e.born).filter fun x => decide (x.born ≥ since) := by
                rw [Array.toList_filter, ce1]
              generalize hO : ((ces.filter fun e => !seen.toArray.contains e.born).filter fun x => decide (x.born < since)) = O at *
              generalize hN : ((ces.filter fun e => !seen.toArray.contains e.born).filter fun x => decide (x.born ≥ since)) = N at *
              rw [← cold] at hold
              rw [← cnew] at hnew
              generalize hAO : List.filter (fun (e : AV × AV × Nat) => decide (e.2.2 < since)) (List.filter (fun e => !seen.contains e.2.2) es) = AO at *
              generalize hAN : List.filter (fun (e : AV × AV × Nat) => decide (e.2.2 ≥ since)) (List.filter (fun e => !seen.contains e.2.2) es) = AN at *
              simp only [hAO, hAN] at h
              cases h
              have hcond' : ¬ ((!seen.toArray.isEmpty && !ces.isEmpty && ces.all fun x => decide (x.born ≥ last)) = true) := by
                have e1 : es.isEmpty = ces.isEmpty := by rw [h7.isEmpty]; cases ces; simp
                have e2 := h7.all (fun b => decide (b ≥ last))
                rw [← Array.all_toList, ← e2, ← e1]
                simpa using hcond
              let cand : Array (Option MapEntry) := (if O.isEmpty then #[none] else #[]) ++ (O ++ N).map some
              have hcs : 0 < cand.size := by
                show 0 < ((if O.isEmpty then #[none] else #[]) ++ (O ++ N).map some).size
                cases hoe : O.isEmpty with
                | true => simp; omega
                | false =>
                  have : O.size ≠ 0 := by intro h0; simp [Array.isEmpty, h0] at hoe
                  simp
                  omega
              have hpick : ∃ q w1, q < cand.size ∧ (choose (.mapNext cand.size)).run P w = .ok q w1 ∧ Rel w0 μ σ w1 ∧ w1.heap = w.heap := by
                rw [run_choose]
                split
                · exact ⟨0, w, hcs, rfl, R, rfl⟩
                · exact ⟨_, w.drew, Nat.mod_lt _ hcs, rfl, R.drew, rfl⟩
              obtain ⟨q, w1, hq, hch, R1, hh⟩ := hpick
              have hrun0 : (Instr.next (.pointer (some ⟨L.b, L.d + 0, none⟩)) false ty).run P w = ((match cand[q]? with
                | some (some e) => do
                  setObj L.b (.mapIter (some Lm.b) since (seen.toArray.push e.born) clock)
                  pure (.tuple #[.bool true, e.key, e.val])
                | some none => pure (.tuple #[.bool false])
                | none => stuck "Next: no such candidate" : Sem Value)).run P w1 := by
                rw [hd]
                simp only [Instr.next, Sem.run_bind, hobj, Result.andThen_ok, Nat.add_zero, run_getMap h6, if_neg hcond']
                rw [hO, hN]
                change ((choose (.mapNext cand.size)).run P w).andThen _ = _
                rw [hch]
                rfl
              have hlenO : AO.isEmpty = O.isEmpty := by rw [hold.isEmpty]; cases O; simp
              have h2' : w1.heap[L.b]? = some (.mapIter (some Lm.b) since seen.toArray last) := by rw [hh]; exact h2
              -- which one came
              have hcand : cand[q]? = (if O.isEmpty then (if q = 0 then some none else (O ++ N).toList[q - 1]?.map some) else (O ++ N).toList[q]?.map some) := by
                show ((if O.isEmpty then #[none] else #[]) ++ (O ++ N).map some)[q]? = _
                cases O.isEmpty with
                | true =>
                  simp only [if_true]
                  rw [← Array.getElem?_toList, Array.toList_append, Array.toList_map]
                  cases q with
                  | zero => simp
                  | succ q =>
                    rw [if_neg (by omega), Nat.add_sub_cancel, Array.toList_append, List.getElem?_append_right (by simp), List.getElem?_map]
                    simp
                | false =>
                  simp only [Bool.false_eq_true, if_false]
                  rw [← Array.getElem?_toList, Array.toList_append, Array.toList_map, List.nil_append, List.getElem?_map]
              have hmem : ∀ (p : Nat) (ent : MapEntry), (O ++ N).toList[p]? = some ent → cand[q]? = some (some ent) → ∃ v v' σ' w', (v, σ') ∈ ((if AO.isEmpty then [(AV.tup [.bool false], σ)] else []) ++ (AO ++ AN).map fun e => (AV.tup [.bool true, e.1, e.2.1], σ.set r (.mit (some m) since (seen ++ [e.2.2]) clock))) ∧
                  (Instr.next (.pointer (some ⟨L.b, L.d + 0, none⟩)) false ty).run P w = .ok v' w' ∧ VR μ v v' ∧ Rel w0 μ σ' w' := by
                intro p ent hp hcq
                obtain ⟨k, v, g1, g2, g3⟩ := (hold.append hnew).get' (j := p) (e := ent) (by rw [← Array.toList_append]; exact hp)
                refine ⟨.tup [.bool true, k, v], .tuple #[.bool true, ent.key, ent.val], σ.set r (.mit (some m) since (seen ++ [ent.born]) clock), { w1 with heap := w1.heap.setIfInBounds L.b (.mapIter (some Lm.b) since (seen.toArray.push ent.born) clock) }, ?_, ?_, .tup (.cons (.bool _) (.cons g2 (.cons g3 .nil))), ?_⟩
                · exact List.mem_append_right _ (List.mem_map.2 ⟨(k, v, ent.born), List.mem_of_getElem? g1, rfl⟩)
                · rw [hrun0, hcq]
                  have hset : (setObj L.b (.mapIter (some Lm.b) since (seen.toArray.push ent.born) clock)).run P w1 = .ok () { w1 with heap := w1.heap.setIfInBounds L.b (.mapIter (some Lm.b) since (seen.toArray.push ent.born) clock) } := by
                    simp only [setObj, Sem.run, h2']
                  simp only [Sem.run_bind, hset, Result.andThen_ok, Sem.run_pure]
                · exact R1.upd hi e rfl rfl rfl (fun x hx => setObj_other hx) (by simp) rfl rfl rfl ⟨hge, hd, some Lm.b, by simpa using setObj_self h2', Lm, h4, rfl⟩
              cases hoe : O.isEmpty with
              | true =>
                rw [hoe] at hcand
                by_cases q0 : q = 0
                · subst q0
                  refine ⟨.tup [.bool false], .tuple #[.bool false], σ, w1, ?_, ?_, .tup (.cons (.bool _) .nil), R1⟩
                  · rw [hlenO, hoe]; simp
                  · rw [hrun0, hcand]; rfl
                · simp only [if_true, if_neg q0] at hcand
                  cases hp : (O ++ N).toList[q - 1]? with
                  | none =>
                    rw [hp] at hcand
                    exact absurd hq (by have := Array.getElem?_eq_none_iff.1 hcand; omega)
                  | some ent => exact hmem (q - 1) ent hp (by rw [hcand, hp]; rfl)
              | false =>
                rw [hoe] at hcand
                simp only [Bool.false_eq_true, if_false] at hcand
                cases hp : (O ++ N).toList[q]? with
                | none =>
                  rw [hp] at hcand
                  exact absurd hq (by have := Array.getElem?_eq_none_iff.1 hcand; omega)
                | some ent => exact hmem q ent hp (by rw [hcand, hp]; rfl)
        · cases h
      · cases h
  · cases h

/-! ### append, copy, clear -/
/-- The cells that are appended, and how many places they are. -/
def aSrc (P : Program) (k : Nat) (e : TypeId) (xt : Option TypeId) (x : AV) (σ : Store) : Option (Nat × List AV) :=
  match xt.bind P.underlying with
  | none => none
  | some (.int _) => match x, zeroCellsOf P e, tyBytes P e with
    | .int _ l, some z, some b => if 0 ≤ l ∧ l ≤ 2 ^ 46 ∧ l * b ≤ 2 ^ 46 ∧ z.length = k then some (l.toNat, azeros (if l.toNat * k = 0 then [] else z) (l.toNat * k)) else none
    | _, _, _ => none
  | some _ => match x with
    | .slNil => some (0, [])
    | .sl i o n _ => (rdCells σ i o (n * k)).map fun cs => (n, cs)
    | .str s => if k = 1 then some (s.length, s.map fun b => .int .u8 b.toNat) else none
    | .im k' rows _ => if k' = k ∨ rows = [] then some (rows.length, rows.flatten) else none
    | .sle => some (0, [])
    | _ => none

def chunk (k n : Nat) (l : List AV) : List (List AV) := (List.range n).map fun j => (l.drop (j * k)).take k
/-- What is appended, element by element. -/
def aRows (k n : Nat) (x : AV) (new : List AV) : List (List AV) := match x with
  | .im _ rows _ => rows
  | _ => chunk k n new
/-- May more be laid behind a frozen slice of m elements? The store with that right used up. -/
def imTake (cap : Cap) (m : Nat) (σ : Store) : Option Store := match cap with
  | .exact c => if c = m then some σ else none
  | .tok t => match σ[t]? with
    | some .tok => some (σ.set t .dead)
    | _ => none
  | _ => none

def aRoom (P : Program) (e : TypeId) (need : Nat) : Bool := match tyBytes P e with
  | some b => need * b ≤ 2 ^ 45 && need ≤ 2 ^ 45 && b ≤ 2 ^ 32
  | none => false

def aAppend (P : Program) (tys : Array TypeId) (s x : AV) (σ : Store) : Option (AV × Store) :=
  match tys[0]?.bind P.underlying with
  | some (.slice e) => match tySize P e, zeroCellsOf P e with
    | some k, some z => if z.length ≠ k then none else match aSrc P k e tys[1]? x σ with
      | some (n, new) => match s with
        | .slNil => if n = 0 then some (.slNil, σ) else if aRoom P e n then some (.sl σ.length 0 n (.spare k), σ ++ [.cells new e]) else none
        | .sl i o m cap => if n = 0 then some (.sl i o m cap, σ) else match cap with
          | .exact c => if m + n ≤ c then (match wrCells σ i (o + m * k) new with
              | some σ' => some (.sl i o (m + n) (.exact c), σ')
              | none => none)
            else match rdCells σ i o (m * k) with
              | some old => if aRoom P e (m + n) then some (.sl σ.length 0 (m + n) (.spare k), σ ++ [.cells (old ++ new) e]) else none
              | none => none
          | .spare es => match σ[i]?, rdCells σ i o (m * k) with
            | some (.cells _ ty), some old => if es = k ∧ ty = e ∧ new.all AV.one ∧ aRoom P e (m + n) then some (.sl σ.length 0 (m + n) (.spare k), σ.set i .dead ++ [.cells (old ++ new) e]) else none
            | _, _ => none
          | .ro => none
          | .tok _ => none
        | .im k0 rows cap => if n = 0 then some (.im k0 rows cap, σ) else if k0 = k ∧ new.all AV.one ∧ aRoom P e (rows.length + n) then (match imTake cap rows.length σ with
            | some σ1 => some (.im k (rows ++ aRows k n x new) (.tok σ.length), σ1 ++ [.tok])
            | none => none) else none
        | _ => none
      | none => none
    | _, _ => none
  | _ => none

def aCopy (P : Program) (tys : Array TypeId) (d s : AV) (σ : Store) : Option (AV × Store) :=
  match tys[0]?.bind P.underlying with
  | some (.slice e) => match tySize P e with
    | some k => match d, s with
      | .slNil, .slNil => some (.int .i64 0, σ)
      | .slNil, .sl .. => some (.int .i64 0, σ)
      | .sl .., .slNil => some (.int .i64 0, σ)
      | .sl i o m _, .sl j q n _ => match rdCells σ j q (min n m * k) with
        | some cs => (if min n m = 0 then some σ else wrCells σ i o cs).map fun σ' => (.int .i64 (min n m : Nat), σ')
        | none => none
      | .slNil, .im .. => some (.int .i64 0, σ)
      | .sl i o m _, .im k' rows _ => if k' = k ∨ rows = [] then (if min rows.length m = 0 then some σ else wrCells σ i o (rows.flatten.take (min rows.length m * k))).map fun σ' => (.int .i64 (min rows.length m : Nat), σ') else none
      | _, _ => none
    | none => none
  | _ => none

def aClear (P : Program) (t : TypeId) (x : AV) (σ : Store) : Option Store :=
  match P.underlying t, x with
  | some (.slice e), .slNil => some σ
  | some (.slice e), .sl i o n _ => if n = 0 then some σ else match zeroCellsOf P e, tySize P e with
    | some z, some k => if z.length = k then wrCells σ i o (azeros z (n * k)) else none
    | _, _ => none
  | _, _ => none

theorem growBy_le (n : Nat) : ∀ (r c : Nat), c ≤ n → Builtin.growBy n r c ≤ 2 * n + 1000
  | 0, c, h => by unfold Builtin.growBy; omega
  | r + 1, c, h => by
    unfold Builtin.growBy
    split
    · omega
    · rename_i hc
      by_cases h2 : c + (c + 768) / 4 ≤ n
      · exact growBy_le n r _ h2
      · cases r with
        | zero => unfold Builtin.growBy; omega
        | succ r =>
          unfold Builtin.growBy
          rw [if_pos (by omega)]
          omega

theorem nextcap_le {n c : Nat} (h : c < n) : Builtin.nextslicecap n c ≤ 2 * n + 1000 := by
  unfold Builtin.nextslicecap
  split
  · omega
  · split
    · omega
    · exact growBy_le n 4 c (by omega)

theorem aRoom_spec {e : TypeId} {need c : Nat} (h : aRoom P e need = true) (hc : c < need) : ∃ inf, P.info? e = some inf ∧ ¬ (Builtin.nextslicecap need c * inf.bytes > 2 ^ 48) ∧ ¬ ((need : Int) > IntKind.i64.max) := by
  unfold aRoom at h
  split at h
  · rename_i b hb
    obtain ⟨inf, h1, h2⟩ := tyBytes_some hb
    simp only [Bool.and_eq_true, decide_eq_true_eq] at h
    obtain ⟨⟨h3, h4⟩, h5⟩ := h
    refine ⟨inf, h1, ?_, ?_⟩
    · rw [h2]
      have := nextcap_le hc
      have h6 : Builtin.nextslicecap need c * b ≤ (2 * need + 1000) * b := Nat.mul_le_mul_right b this
      have h7 : (2 * need + 1000) * b = 2 * (need * b) + 1000 * b := by rw [Nat.add_mul, Nat.mul_assoc]
      omega
    · have : IntKind.i64.max = 9223372036854775807 := by decide
      omega
  · cases h

def isIntD : TypeDesc → Bool
  | .int _ => true
  | _ => false

theorem aSrc_sim {w0 w : World} {μ : Ren} {σ : Store} (R : Rel w0 μ σ w) {k : Nat} {e : TypeId} (hk : tySize P e = some k) {xt : Option TypeId} {x : AV} {x' : Value} (hx : VR μ x x') {n : Nat} {new : List AV} (h : aSrc P k e xt x σ = some (n, new)) :
    ∃ (zeros : Bool) (new' : Array Value) (ut : TypeDesc), xt.bind P.underlying = some ut ∧ zeros = isIntD ut ∧ VRs μ new new'.toList ∧ new.length = n * k ∧
      (if zeros then (∃ l : Int, x' = .int .i64 l ∨ (∃ q, x' = .int q l)) ∧ (∃ q l, x' = .int q l ∧ 0 ≤ l ∧ l ≤ 2 ^ 46 ∧ l.toNat = n ∧ (∀ inf, P.info? e = some inf → ¬ (l * inf.bytes > 2 ^ 48)) ∧ (if n * k = 0 then (pure #[] : Sem (Array Value)) else do pure (Builtin.zeroCells (← zeroValue e).cells n)).run P w = .ok new' w)
        else (Builtin.lenOf x').run P w = .ok n w ∧ (Builtin.firstCells k n x').run P w = .ok new' w) := by
  unfold aSrc at h
  split at h
  · cases h
  · rename_i q hu
    split at h
    · rename_i q2 l z b hz hb
      split at h
      · rename_i hc
        simp only [Option.some.injEq, Prod.mk.injEq] at h
        obtain ⟨rfl, rfl⟩ := h
        obtain ⟨z', h1, rfl⟩ := zeroCells_sim hz w
        obtain ⟨inf, hi1, hi2⟩ := tyBytes_some hb
        cases hx
        have hzs : VRs μ (if l.toNat * k = 0 then [] else ofZero z') (if l.toNat * k = 0 then #[] else z'.cells).toList := by
          split
          · exact .nil
          · exact ofZero_sim μ z'
        refine ⟨true, vzeros (if l.toNat * k = 0 then #[] else z'.cells) (l.toNat * k), _, hu, rfl, azeros_sim hzs _, by simp [azeros], ?_⟩
        simp only [if_true]
        refine ⟨⟨l, .inr ⟨_, rfl⟩⟩, _, l, rfl, hc.1, hc.2.1, rfl, ?_, ?_⟩
        · intro inf2 hi3
          rw [hi1] at hi3
          cases hi3
          rw [hi2]
          have := hc.2.2.1
          omega
        · have hzl : z'.cells.size = k := by have := hc.2.2.2; simpa [ofZero] using this
          by_cases h0 : l.toNat * k = 0
          · simp [h0, vzeros]
          · simp only [h0, if_false, Sem.run_bind, h1, Result.andThen_ok, Sem.run_pure]
            unfold Builtin.zeroCells vzeros
            rw [hzl]
      · cases h
    · cases h
  · rename_i ut hne hu
    have hz : isIntD ut = false := by
      cases ut <;> first | rfl | exact (hne _ rfl).elim | exact absurd rfl (hne _)
    split at h
    · simp only [Option.some.injEq, Prod.mk.injEq] at h
      obtain ⟨rfl, rfl⟩ := h
      cases hx
      refine ⟨false, #[], ut, hu, hz.symm, .nil, by simp, ?_⟩
      simp only [Bool.false_eq_true, if_false]
      exact ⟨rfl, rfl⟩
    · rename_i i o m cap
      cases hr : rdCells σ i o (m * k) with
      | none => simp [hr] at h
      | some cs =>
        simp only [hr, Option.map_some, Option.some.injEq, Prod.mk.injEq] at h
        obtain ⟨rfl, rfl⟩ := h
        obtain ⟨L, off', c', rfl, hi, hn, hc, hoff⟩ := VR_sl_addr hx
        obtain ⟨vs, g1, g2, g3⟩ := sl_cells R hi hoff hr
        refine ⟨false, vs.toArray, ut, hu, hz.symm, g2, by rw [g2.length, g1], ?_⟩
        simp only [Bool.false_eq_true, if_false]
        refine ⟨rfl, ?_⟩
        have := run_loadCells_list (P := P) w (⟨L.b, off', none⟩ : Addr) vs g3
        rw [g1] at this
        exact this
    · rename_i s
      split at h
      · rename_i hk1
        simp only [Option.some.injEq, Prod.mk.injEq] at h
        obtain ⟨rfl, rfl⟩ := h
        subst hk1
        cases hx with
        | str es =>
          rename_i s'
          subst es
          have hsz : s'.data.toList.length = s'.size := Array.length_toList
          refine ⟨false, s'.data.map fun (b : UInt8) => Value.int .u8 b.toNat, ut, hu, hz.symm, ?_, by simp, ?_⟩
          · rw [Array.toList_map]
            have gen : ∀ l : List UInt8, VRs μ (l.map fun b => AV.int .u8 b.toNat) (l.map fun b => Value.int .u8 b.toNat) := by
              intro l
              induction l with
              | nil => exact .nil
              | cons b l ih => exact .cons (.int _ _) ih
            exact gen _
          · simp only [Bool.false_eq_true, if_false]
            refine ⟨by rw [hsz]; rfl, ?_⟩
            have hex : s'.extract 0 s'.data.toList.length = s' := by
              rw [hsz]
              exact ByteArray.extract_zero_size
            simp only [Builtin.firstCells]
            rw [hex]
            rfl
      · cases h
    · rename_i k' rows cap
      split at h
      · rename_i hc
        simp only [Option.some.injEq, Prod.mk.injEq] at h
        obtain ⟨rfl, rfl⟩ := h
        obtain ⟨a, c', cs, rfl, hn, hv, hl, hcase⟩ := im_cells R hx
        have hl2 : cs.length = rows.length * k := by
          rcases hc with rfl | rfl
          · exact hl
          · simpa using hl
        refine ⟨false, cs.toArray, ut, hu, hz.symm, hv, by rw [hv.length, hl2], ?_⟩
        simp only [Bool.false_eq_true, if_false]
        refine ⟨rfl, ?_⟩
        rcases hcase with ⟨rfl, rfl⟩ | ⟨ad, rfl, h3⟩
        · cases a with
          | none => rfl
          | some ad => simpa [Builtin.firstCells] using run_loadCells_list (P := P) w ad [] (fun j v e => by simp at e)
        · have := run_loadCells_list (P := P) w ad cs h3
          rw [hl2] at this
          exact this
      · cases h
    · simp only [Option.some.injEq, Prod.mk.injEq] at h
      obtain ⟨rfl, rfl⟩ := h
      cases hx
      rename_i ad c'
      refine ⟨false, #[], ut, hu, hz.symm, .nil, by simp, ?_⟩
      simp only [Bool.false_eq_true, if_false]
      refine ⟨rfl, ?_⟩
      simpa [Builtin.firstCells] using run_loadCells_list (P := P) w ad [] (fun j v e => by simp at e)
    · cases h

end
end Go.Proofs.Ytbkmjmhoclflnaa.Fw
