/- From a row's reading to the walk, and back. -/
import Derived.Test.YtbkmjmhoclflnaaFw28
import Derived.Test.YtbkmjmhoclflnaaRows
import Derived.Carry
import Derived.Deep.Slices
import Derived.Deep.Strs
import Derived.OpenShut
import Derived.JoinedCond
import Derived.RowKit
import Derived.ChangeSame
namespace Go.Proofs.Ytbkmjmhoclflnaa.Fw
open Go Go.RowKit Go.ChangeShapes
set_option linter.unusedVariables false
set_option linter.unusedSimpArgs false

/-- All that came in, frozen. -/
def frozAll (W : World) : Ren := ⟨fun _ => none, fun b => match W.heap[b]? with
  | some (.cells cs _ _) => some cs.toList
  | _ => none⟩

theorem frozAll_get {W : World} {b : Nat} {zs : List Value} (h : (frozAll W).fz b = some zs) : ∃ cs ty fr, W.heap[b]? = some (.cells cs ty fr) ∧ cs.toList = zs := by
  have h' : (match W.heap[b]? with
    | some (.cells cs _ _) => some cs.toList
    | _ => none) = some zs := h
  split at h'
  · rename_i cs ty fr e
    cases h'
    exact ⟨cs, ty, fr, e, rfl⟩
  · cases h'

theorem rel0 {W : World} (hg : Globs (frozAll W)) : Rel W (frozAll W) [] W := by
  refine ⟨Below.refl _ _, ?_, ?_, ?_, ?_, ?_, ?_, hg⟩
  · intro i L o h; cases h
  · intro i j Li Lj oi oj _ h; cases h
  · intro i L h; cases h
  · intro b zs h
    obtain ⟨cs, ty, fr, h1, h2⟩ := frozAll_get h
    exact ⟨cs, ty, fr, h1, [], by rw [List.append_nil, h2]⟩
  · intro i L o h; cases h
  · intro i L o h; cases h

/-- A walk that answers true, in the world. -/
theorem calls_of {P : Program} (hm : P.follows .mixedOrders = true) {W : World} (hg : Globs (frozAll W)) {f : FuncId} {args : List AV} {args' : Array Value} (hv : VRs (frozAll W) args args'.toList)
    (h : acall P T0 f args (fun v _ => v = .bool true) []) : Calls P f args' W fun e W' => e = .returned (.bool true) ∧ Below W.heap.size W W' := by
  refine (acall_ok (T := T0) (w0 := W) (fun f s e => by cases e) hm f args _ [] h (frozAll W) W args' (rel0 hg) hv).mono fun e w' hh => ?_
  obtain ⟨v, v', σ', rfl, rfl, _, μ', _, _, k3, k4⟩ := hh
  cases k3
  exact ⟨rfl, k4.below⟩

/-! ### The row's end -/
section
variable {H : Type} {enc : TypeId × Value → H} {P : Program}

theorem trodAll_below (hl : laidOutB P = true) {W W' : World} (hb : Below W.heap.size W W') : ∀ {ts : List TypeId} {vs : List Value} {ds : List (DataW H)} {ps : List MemPlace},
    (ts.all fun t => P.readableRec t && decide (t < P.types.size)) = true → (∀ x ∈ ps, x.block < W.heap.size) → DataW.TrodAll enc P W 0 (fun _ => true) true ts vs ds ps → DataW.TrodAll enc P W' 0 (fun b => decide (b < W.heap.size)) true ts vs ds ps
  | [], [], [], ps, _, _, h => h
  | t :: ts, v :: vs, d :: ds, ps, hr, hlt, h => by
    obtain ⟨p, q, h1, h2, rfl⟩ := h
    simp only [List.all_cons, Bool.and_eq_true, decide_eq_true_eq] at hr
    exact ⟨p, q, Below.trod hl hr.1.1 hr.1.2 h1 hb (fun x hx => hlt x (by simp [hx])), trodAll_below hl hb hr.2 (fun x hx => hlt x (by simp [hx])) h2, rfl⟩
  | [], _ :: _, _, _, _, _, h => h.elim
  | [], [], _ :: _, _, _, _, h => h.elim
  | _ :: _, [], _, _, _, _, h => h.elim
  | _ :: _, _ :: _, [], _, _, _, h => h.elim

theorem post_below {f : Func} {s : ChangeSpec} {W W' : World} {args : Array Value} {ds gs : List (DataW H)} {before : List MemPlace} {tb : TypeId} (hl : laidOutB P = true) (htb : P.underlying tb = some .bool) (hres : f.resultTypes = #[tb])
    (hpar : (f.params.toList.all fun t => P.readableRec t && decide (t < P.types.size)) = true) (hvars : s.vars = []) (hW : DataW.Whole enc P f.params.toList s.vars false W args.toList ds gs before) (hb : Below W.heap.size W W')
    (hr : (s.fn H (ds ++ gs)).results = [.lit (.bool true)]) (ha : (s.fn H (ds ++ gs)).args = ds) (hgv : (s.fn H (ds ++ gs)).vars = gs) : s.post enc P f false true false false W args (.bool true) W' := by
  have hlt := hW.lt
  have hW' := hW
  obtain ⟨p, q, hA, hV, rfl, hz, hn⟩ := hW
  rw [hvars] at hV
  have hq : gs = [] ∧ q = [] := by
    cases gs with
    | nil => exact ⟨rfl, hV⟩
    | cons _ _ => exact hV.elim
  obtain ⟨rfl, rfl⟩ := hq
  refine ⟨ds, [], p ++ [], [], p, [], hW', ?_, ?_, ?_, hb.frame _, fun h => by cases h⟩
  · rw [hr, hres]
    exact ⟨[], [], shut_bool htb true, rfl, rfl⟩
  · rw [ha]
    exact trodAll_below hl hb hpar (fun x hx => hlt x (by simp [hx])) hA
  · rw [hgv, hvars]; rfl

/-! ### Opening -/
variable {W : World} {base : Nat} {spare : Nat → Bool} {held : Bool}

theorem bulk_one (d : DataW H) : 1 ≤ Rows.uptoBulk d := by
  cases d with
  | lit l => cases l <;> simp [Rows.uptoBulk]
  | nil => simp [Rows.uptoBulk]
  | ptr d => simp [Rows.uptoBulk]
  | slice elems spare => simp [Rows.uptoBulk]
  | agg parts => simp [Rows.uptoBulk]
  | iface t d => simp [Rows.uptoBulk]
  | map entries => simp [Rows.uptoBulk]
  | held h => simp [Rows.uptoBulk]
theorem bulkAll_app (l r : List (DataW H)) : Rows.uptoBulkAll (l ++ r) = Rows.uptoBulkAll l + Rows.uptoBulkAll r := by
  induction l with
  | nil => simp [Rows.uptoBulkAll]
  | cons x l ih => simp only [List.cons_append, Rows.uptoBulkAll, ih]; omega

theorem op_str {t : TypeId} (ht : P.underlying t = some .string) {n : Nat} {cs : List Value} {x : DataW H × List MemPlace} (h : DataW.trod enc P W base spare held n t cs = some x) :
    ∃ s : List UInt8, VRs (frozAll W) [.str s] cs ∧ s.length + 1 ≤ Rows.uptoBulk x.1 := by
  obtain ⟨s, rfl, rfl, _⟩ := DataW.trod_string ht h
  exact ⟨s.data.toList, .cons (.str rfl) .nil, by simp [Rows.uptoBulk]⟩
theorem op_int {t : TypeId} {k : IntKind} (ht : P.underlying t = some (.int k)) {n : Nat} {cs : List Value} {x : DataW H × List MemPlace} (h : DataW.trod enc P W base spare held n t cs = some x) :
    ∃ m : Int, VRs (frozAll W) [.int k m] cs ∧ (Lit.int k m).wf = true := by
  obtain ⟨m, rfl, rfl, hw⟩ := DataW.trod_int ht h
  exact ⟨m, .cons (.int _ _) .nil, hw⟩
theorem op_u8 {t : TypeId} (ht : P.underlying t = some (.int .u8)) {n : Nat} {cs : List Value} {x : DataW H × List MemPlace} (h : DataW.trod enc P W base spare held n t cs = some x) :
    ∃ b : UInt8, VRs (frozAll W) [.int .u8 b.toNat] cs := by
  obtain ⟨m, hv, hw⟩ := op_int ht h
  simp only [Lit.wf, Bool.and_eq_true, decide_eq_true_eq, IntKind.min, IntKind.max, IntKind.signed, IntKind.bits, Bool.false_eq_true, if_false] at hw
  refine ⟨UInt8.ofNat m.toNat, ?_⟩
  have : ((UInt8.ofNat m.toNat).toNat : Int) = m := by
    simp [UInt8.toNat_ofNat']; omega
  rw [this]; exact hv

/-- A slice opened: a frozen one. -/
theorem op_im {t e : TypeId} {k : Nat} (ht : P.underlying t = some (.slice e)) (hk : P.cellsOf e = k) (hk0 : 0 < k) {α : Type} (en : α → List AV) (hen : ∀ y, (en y).length = k) (wt : α → Nat) (Q : α → Prop)
    (hel : ∀ n cs x, DataW.trod enc P W base spare held n e cs = some x → cs.length = k → ∃ y : α, VRs (frozAll W) (en y) cs ∧ Q y ∧ wt y + 1 ≤ Rows.uptoBulk x.1)
    {n : Nat} {cs : List Value} {x : DataW H × List MemPlace} (h : DataW.trod enc P W base spare held n t cs = some x) :
    ∃ ys : List α, VRs (frozAll W) [.im k (ys.map en) .ro] cs ∧ (∀ y ∈ ys, Q y) ∧ (ys.map fun y => wt y + 1).sum + 1 ≤ Rows.uptoBulk x.1 := by
  rcases Deep.open_slice ht h with ⟨rfl, rfl⟩ | ⟨a, len, cap, m, n', D, Pl, rfl, _, hlc, _, hm, rfl, hx⟩
  · exact ⟨[], .cons (.imE trivial (fun _ => rfl)) .nil, fun y hy => (by cases hy), by simp [Rows.uptoBulk]⟩
  have hlm : len ≤ m := by rw [hm]; split <;> omega
  rw [hk] at hx
  have bulk : ∀ j, j ≤ len → ∀ (ys : List α), ys.length = j → (∀ i y, ys[i]? = some y → wt y + 1 ≤ Rows.uptoBulk (D i)) → (ys.map fun y => wt y + 1).sum ≤ Rows.uptoBulkAll ((List.range j).map D) := by
    intro j
    induction j with
    | zero => intro _ ys hy _; have : ys = [] := List.eq_nil_of_length_eq_zero hy; subst this; simp
    | succ j ih =>
      intro hj ys hy hb
      obtain ⟨ys', y, rfl⟩ : ∃ b' x, ys = b' ++ [x] := ⟨ys.dropLast, ys.getLast (by intro e; subst e; simp at hy), (List.dropLast_concat_getLast _).symm⟩
      have hl : ys'.length = j := by simpa using hy
      have h1 := ih (by omega) ys' hl (fun i z hz => hb i z (by rw [List.getElem?_append_left (List.getElem?_eq_some_iff.1 hz).1]; exact hz))
      have h2 := hb j y (by rw [List.getElem?_append_right (by omega)]; simp [hl])
      have e1 : (List.range (j + 1)).map D = (List.range j).map D ++ [D j] := by rw [List.range_succ, List.map_append]; rfl
      rw [e1, bulkAll_app, List.map_append, List.sum_append]
      simp only [List.map_cons, List.map_nil, List.sum_cons, List.sum_nil, Rows.uptoBulkAll]
      omega
  by_cases h0 : len = 0
  · subst h0
    exact ⟨[], .cons (.imE trivial (fun h => by cases h)) .nil, fun y hy => (by cases hy), by simp [Rows.uptoBulk]⟩
  obtain ⟨cs0, hc0, _⟩ := hx 0 (by omega)
  obtain ⟨_, hl0, hg0⟩ := World.cells?_some hc0
  have hcell : ∃ v, W.cell? a = some v := by
    have := hg0 0 hk0
    rw [List.getElem?_eq_getElem (by omega)] at this
    exact ⟨cs0[0], by simpa [Addr.add] using this⟩
  obtain ⟨v0, hv0⟩ := hcell
  obtain ⟨b, off, spot⟩ := a
  unfold World.cell? at hv0
  split at hv0
  · rename_i c ty fr hb
    have hspot : spot = none := by
      cases spot with
      | none => rfl
      | some s => simp at hv0
    subst hspot
    have hfz : (frozAll W).fz b = some c.toList := by
      show (match W.heap[b]? with
        | some (.cells cs _ _) => some cs.toList
        | _ => none) = _
      rw [hb]
    have hrow : ∀ i, i < m → ∃ cs', cs'.length = k ∧ DataW.trod enc P W base spare held n' e cs' = some (D i, Pl i) ∧ off + i * k + k ≤ c.toList.length ∧ (c.toList.drop (off + i * k)).take k = cs' := by
      intro i hi
      obtain ⟨cs', h1, h2⟩ := hx i hi
      obtain ⟨_, hl, hg⟩ := World.cells?_some h1
      have hg' : ∀ j, j < k → c.toList[off + i * k + j]? = cs'[j]? := by
        intro j hj
        rw [← hg j hj, add_none, add_none]
        simp [World.cell?, hb]
      have hle : off + i * k + k ≤ c.toList.length := by
        have := hg' (k - 1) (by omega)
        rw [List.getElem?_eq_getElem (show k - 1 < cs'.length by omega)] at this
        have := (List.getElem?_eq_some_iff.1 this).1
        omega
      refine ⟨cs', hl, h2, hle, ?_⟩
      apply List.ext_getElem?
      intro j
      by_cases hj : j < k
      · rw [List.getElem?_take_of_lt hj, List.getElem?_drop, hg' j hj]
      · rw [List.getElem?_eq_none (by simp; omega), List.getElem?_eq_none (by omega)]
    have build : ∀ j, j ≤ len → ∃ ys : List α, ys.length = j ∧ (∀ y ∈ ys, Q y) ∧ (∀ i y, ys[i]? = some y → wt y + 1 ≤ Rows.uptoBulk (D i)) ∧ VRs (frozAll W) ((ys.map en).flatten) ((c.toList.drop off).take (j * k)) ∧ (off + j * k ≤ c.toList.length) := by
      intro j
      induction j with
      | zero =>
        intro _
        obtain ⟨_, _, _, hle, _⟩ := hrow 0 (by omega)
        exact ⟨[], rfl, fun y hy => (by cases hy), fun i y hy => (by simp at hy), by simpa using VRs.nil, by omega⟩
      | succ j ih =>
        intro hj
        obtain ⟨ys, e1, e2, e3, e4, _⟩ := ih (by omega)
        obtain ⟨cs', r1, r2, r3, r4⟩ := hrow j (by omega)
        obtain ⟨y, s1, s2, s3⟩ := hel _ _ _ r2 r1
        refine ⟨ys ++ [y], by simp [e1], ?_, ?_, ?_, by rw [Nat.add_mul, Nat.one_mul]; omega⟩
        · intro z hz
          rcases List.mem_append.1 hz with hz | hz
          · exact e2 z hz
          · simp only [List.mem_singleton] at hz; subst hz; exact s2
        · intro i z hz
          by_cases hi : i < ys.length
          · rw [List.getElem?_append_left hi] at hz; exact e3 i z hz
          · rw [List.getElem?_append_right (by omega)] at hz
            have hij : i = ys.length := by
              have := (List.getElem?_eq_some_iff.1 hz).1
              simp at this; omega
            subst hij
            simp at hz; subst hz; rw [e1]; exact s3
        · have : (c.toList.drop off).take ((j + 1) * k) = (c.toList.drop off).take (j * k) ++ cs' := by
            rw [Nat.add_mul, Nat.one_mul, List.take_add, List.drop_drop, r4]
          rw [this]
          simp only [List.map_append, List.flatten_append, List.map_cons, List.map_nil, List.flatten_cons, List.flatten_nil, List.append_nil]
          exact e4.append s1
    obtain ⟨ys, e1, e2, e3, e4, e5⟩ := build len (Nat.le_refl _)
    refine ⟨ys, .cons ?_ .nil, e2, ?_⟩
    · have hlen : (ys.map en).length = len := by simp [e1]
      have htl : ((c.toList.drop off).take (len * k)).length = len * k := by rw [List.length_take, List.length_drop]; omega
      have := VR.im (μ := frozAll W) (k := k) (b := b) (off := off) (c' := cap) (rows := ys.map en) (cap := .ro) ⟨c.toList, hfz, by rw [htl]; exact e5, by rw [htl]⟩ e4 (fun r hr => by obtain ⟨y, _, rfl⟩ := List.mem_map.1 hr; exact hen y) (by omega) trivial
      rw [hlen] at this
      exact this
    · have := bulk len (Nat.le_refl _) ys e1 e3
      simp only [Rows.uptoBulk]
      omega
  · cases hv0

theorem sum_ones {α : Type} (l : List α) : (l.map fun _ => 0 + 1).sum = l.length := by
  induction l with
  | nil => rfl
  | cons b l ih => rw [List.map_cons, List.sum_cons, ih, List.length_cons]; omega
/-- Bytes. -/
theorem op_bytes {t e : TypeId} (ht : P.underlying t = some (.slice e)) (he : P.underlying e = some (.int .u8)) (hk : P.cellsOf e = 1) {n : Nat} {cs : List Value} {x : DataW H × List MemPlace} (h : DataW.trod enc P W base spare held n t cs = some x) :
    ∃ l : List UInt8, VRs (frozAll W) [.im 1 (encB l) .ro] cs ∧ l.length + 1 ≤ Rows.uptoBulk x.1 := by
  obtain ⟨l, h1, _, h2⟩ := op_im ht hk (by decide) (fun b : UInt8 => [.int .u8 b.toNat]) (fun _ => rfl) (fun _ => 0) (fun _ => True) (fun n cs x h _ => by
    obtain ⟨b, hb⟩ := op_u8 he h
    exact ⟨b, hb, trivial, by have := bulk_one x.1; omega⟩) h
  refine ⟨l, h1, ?_⟩
  have e : (l.map fun _ => 0 + 1).sum = l.length := sum_ones l
  rw [e] at h2; exact h2
end
end Go.Proofs.Ytbkmjmhoclflnaa.Fw
