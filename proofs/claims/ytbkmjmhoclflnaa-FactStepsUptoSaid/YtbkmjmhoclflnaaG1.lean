/- The code of the seat's functions worked out: printed by Gen.lean. -/
import Derived.Test.YtbkmjmhoclflnaaFw26
import Derived.Test.YtbkmjmhoclflnaaProg
namespace Go.Proofs.Ytbkmjmhoclflnaa.Fw
open Go
set_option linter.unusedVariables false
set_option maxRecDepth 20000
theorem cb_8 : callable Try.prog 8 = true := by kernel_rfl
theorem u_26 : Try.prog.underlying 26 = some (.slice 28) := by kernel_rfl
theorem u_28 : Try.prog.underlying 28 = some (.slice 25) := by kernel_rfl
theorem tS_28 : tySize Try.prog 28 = some 1 := by kernel_rfl
theorem tC_28 : zeroCellsOf Try.prog 28 = some [.slNil] := by kernel_rfl
theorem tB_28 : tyBytes Try.prog 28 = some 24 := by kernel_rfl
theorem lnm_26 : ∀ (k : Nat) (rows : List (List AV)) (cap : Cap) (σ : Store), aBuiltin Try.prog .len #[26] [.im k rows cap] σ = some (.int .i64 rows.length) := by
  intros; kernel_rfl
theorem lns_26 : ∀ (i o n : Nat) (cap : Cap) (σ : Store), aBuiltin Try.prog .len #[26] [.sl i o n cap] σ = some (.int .i64 n) := by
  intros; kernel_rfl
theorem lnn_26 : ∀ (σ : Store), aBuiltin Try.prog .len #[26] [.slNil] σ = some (.int .i64 0) := by
  intros; kernel_rfl
theorem lne_26 : ∀ (σ : Store), aBuiltin Try.prog .len #[26] [.sle] σ = some (.int .i64 0) := by
  intros; kernel_rfl
theorem u_3 : Try.prog.underlying 3 = some (.int .i64) := by kernel_rfl
theorem ix_26 : ∀ (i o n : Nat) (cap : Cap) (k : IntKind) (j : Int), aIndexAddr Try.prog 26 (.sl i o n cap) (.int k j) = if 0 ≤ j ∧ j < n then some (.ptr i (o + j.toNat * 1)) else none := by
  intros; kernel_rfl
theorem ixm_26 : ∀ (rows : List (List AV)) (cap : Cap) (k : IntKind) (j : Int), aIndexAddr Try.prog 26 (.im 1 rows cap) (.int k j) = if 0 ≤ j then (rows[j.toNat]?).map (fun r => AV.imp r 0) else none := fun rows cap k j => aIndexAddr_im (by kernel_rfl) (show tySize Try.prog 28 = _ by kernel_rfl) rows cap k j
theorem ld_28 : ∀ (i o : Nat) (σ : Store), aLoad Try.prog 28 (.ptr i o) σ = rdCell σ i o := by
  intros; kernel_rfl
theorem ldm_28 : ∀ (r : List AV) (o : Nat) (σ : Store), aLoad Try.prog 28 (.imp r o) σ = r[o]? := by
  intros; kernel_rfl
theorem tS_25 : tySize Try.prog 25 = some 3 := by kernel_rfl
theorem tC_25 : zeroCellsOf Try.prog 25 = some [(.str []), (.int .u64 0), .slNil] := by kernel_rfl
theorem tB_25 : tyBytes Try.prog 25 = some 48 := by kernel_rfl
theorem lnm_28 : ∀ (k : Nat) (rows : List (List AV)) (cap : Cap) (σ : Store), aBuiltin Try.prog .len #[28] [.im k rows cap] σ = some (.int .i64 rows.length) := by
  intros; kernel_rfl
theorem lns_28 : ∀ (i o n : Nat) (cap : Cap) (σ : Store), aBuiltin Try.prog .len #[28] [.sl i o n cap] σ = some (.int .i64 n) := by
  intros; kernel_rfl
theorem lnn_28 : ∀ (σ : Store), aBuiltin Try.prog .len #[28] [.slNil] σ = some (.int .i64 0) := by
  intros; kernel_rfl
theorem lne_28 : ∀ (σ : Store), aBuiltin Try.prog .len #[28] [.sle] σ = some (.int .i64 0) := by
  intros; kernel_rfl
theorem cb_9 : callable Try.prog 9 = true := by kernel_rfl
theorem ld_25 : ∀ (i o : Nat) (σ : Store), aLoad Try.prog 25 (.ptr i o) σ = (rdCells σ i o 3).map .agg := by
  intros; kernel_rfl
theorem ldm_25 : ∀ (r : List AV) (o : Nat) (σ : Store), aLoad Try.prog 25 (.imp r o) σ = if o + 3 ≤ r.length then some (.agg ((r.drop o).take 3)) else none := by
  intros; kernel_rfl
theorem cb_10 : callable Try.prog 10 = true := by kernel_rfl
theorem cb_11 : callable Try.prog 11 = true := by kernel_rfl
theorem cb_12 : callable Try.prog 12 = true := by kernel_rfl
theorem cb_13 : callable Try.prog 13 = true := by kernel_rfl
theorem u_4 : Try.prog.underlying 4 = some .bool := by kernel_rfl
theorem cb_14 : callable Try.prog 14 = true := by kernel_rfl
theorem cb_15 : callable Try.prog 15 = true := by kernel_rfl
theorem cb_16 : callable Try.prog 16 = true := by kernel_rfl
theorem bs_26_3 : ∀ {call : CallT} {ρ : Operand → AV} {K : Kont} {σ : Store} (parts : Array (Nat × Operand)), aexec Try.prog call ρ (.buildSlice 26 3 parts) K σ = oB (afill (fun i => some (i * 1, 1)) [.slNil, .slNil, .slNil] (parts.toList.map fun p => (p.1, ρ p.2))) (fun cs => K (.sl σ.length 0 3 (.exact 3)) (σ ++ [.cells cs 28])) ⟨⟩ := fun parts => ax_buildSlice u_26 tS_28 tC_28 parts (by decide)
theorem bs_26_2 : ∀ {call : CallT} {ρ : Operand → AV} {K : Kont} {σ : Store} (parts : Array (Nat × Operand)), aexec Try.prog call ρ (.buildSlice 26 2 parts) K σ = oB (afill (fun i => some (i * 1, 1)) [.slNil, .slNil] (parts.toList.map fun p => (p.1, ρ p.2))) (fun cs => K (.sl σ.length 0 2 (.exact 2)) (σ ++ [.cells cs 28])) ⟨⟩ := fun parts => ax_buildSlice u_26 tS_28 tC_28 parts (by decide)
theorem ix_28 : ∀ (i o n : Nat) (cap : Cap) (k : IntKind) (j : Int), aIndexAddr Try.prog 28 (.sl i o n cap) (.int k j) = if 0 ≤ j ∧ j < n then some (.ptr i (o + j.toNat * 3)) else none := by
  intros; kernel_rfl
theorem ixm_28 : ∀ (rows : List (List AV)) (cap : Cap) (k : IntKind) (j : Int), aIndexAddr Try.prog 28 (.im 3 rows cap) (.int k j) = if 0 ≤ j then (rows[j.toNat]?).map (fun r => AV.imp r 0) else none := fun rows cap k j => aIndexAddr_im (by kernel_rfl) (show tySize Try.prog 25 = _ by kernel_rfl) rows cap k j
theorem fa_25_0 : ∀ (i o : Nat), aFieldAddr Try.prog 25 (.ptr i o) 0 = some (.ptr i (o + 0)) := by
  intros; kernel_rfl
theorem fam_25_0 : ∀ (r : List AV) (o : Nat), aFieldAddr Try.prog 25 (.imp r o) 0 = some (.imp r (o + 0)) := by
  intros; kernel_rfl
theorem ld_9 : ∀ (i o : Nat) (σ : Store), aLoad Try.prog 9 (.ptr i o) σ = rdCell σ i o := by
  intros; kernel_rfl
theorem ldm_9 : ∀ (r : List AV) (o : Nat) (σ : Store), aLoad Try.prog 9 (.imp r o) σ = r[o]? := by
  intros; kernel_rfl
theorem u_9 : Try.prog.underlying 9 = some .string := by kernel_rfl
theorem lnt_9 : ∀ (s : List UInt8) (σ : Store), aBuiltin Try.prog .len #[9] [.str s] σ = some (.int .i64 s.length) := by
  intros; kernel_rfl
theorem fa_25_2 : ∀ (i o : Nat), aFieldAddr Try.prog 25 (.ptr i o) 2 = some (.ptr i (o + 2)) := by
  intros; kernel_rfl
theorem fam_25_2 : ∀ (r : List AV) (o : Nat), aFieldAddr Try.prog 25 (.imp r o) 2 = some (.imp r (o + 2)) := by
  intros; kernel_rfl
theorem ld_23 : ∀ (i o : Nat) (σ : Store), aLoad Try.prog 23 (.ptr i o) σ = rdCell σ i o := by
  intros; kernel_rfl
theorem ldm_23 : ∀ (r : List AV) (o : Nat) (σ : Store), aLoad Try.prog 23 (.imp r o) σ = r[o]? := by
  intros; kernel_rfl
theorem u_23 : Try.prog.underlying 23 = some (.slice 5) := by kernel_rfl
theorem u_5 : Try.prog.underlying 5 = some (.int .u8) := by kernel_rfl
theorem tS_5 : tySize Try.prog 5 = some 1 := by kernel_rfl
theorem tC_5 : zeroCellsOf Try.prog 5 = some [(.int .u8 0)] := by kernel_rfl
theorem tB_5 : tyBytes Try.prog 5 = some 1 := by kernel_rfl
theorem lnm_23 : ∀ (k : Nat) (rows : List (List AV)) (cap : Cap) (σ : Store), aBuiltin Try.prog .len #[23] [.im k rows cap] σ = some (.int .i64 rows.length) := by
  intros; kernel_rfl
theorem lns_23 : ∀ (i o n : Nat) (cap : Cap) (σ : Store), aBuiltin Try.prog .len #[23] [.sl i o n cap] σ = some (.int .i64 n) := by
  intros; kernel_rfl
theorem lnn_23 : ∀ (σ : Store), aBuiltin Try.prog .len #[23] [.slNil] σ = some (.int .i64 0) := by
  intros; kernel_rfl
theorem lne_23 : ∀ (σ : Store), aBuiltin Try.prog .len #[23] [.sle] σ = some (.int .i64 0) := by
  intros; kernel_rfl
theorem fa_25_1 : ∀ (i o : Nat), aFieldAddr Try.prog 25 (.ptr i o) 1 = some (.ptr i (o + 1)) := by
  intros; kernel_rfl
theorem fam_25_1 : ∀ (r : List AV) (o : Nat), aFieldAddr Try.prog 25 (.imp r o) 1 = some (.imp r (o + 1)) := by
  intros; kernel_rfl
theorem ld_22 : ∀ (i o : Nat) (σ : Store), aLoad Try.prog 22 (.ptr i o) σ = rdCell σ i o := by
  intros; kernel_rfl
theorem ldm_22 : ∀ (r : List AV) (o : Nat) (σ : Store), aLoad Try.prog 22 (.imp r o) σ = r[o]? := by
  intros; kernel_rfl
theorem cb_47 : callable Try.prog 47 = true := by kernel_rfl
theorem cb_48 : callable Try.prog 48 = true := by kernel_rfl
theorem u_175 : Try.prog.underlying 175 = some (.slice 3) := by kernel_rfl
theorem tS_3 : tySize Try.prog 3 = some 1 := by kernel_rfl
theorem tC_3 : zeroCellsOf Try.prog 3 = some [(.int .i64 0)] := by kernel_rfl
theorem tB_3 : tyBytes Try.prog 3 = some 8 := by kernel_rfl
theorem bs_175_2 : ∀ {call : CallT} {ρ : Operand → AV} {K : Kont} {σ : Store} (parts : Array (Nat × Operand)), aexec Try.prog call ρ (.buildSlice 175 2 parts) K σ = oB (afill (fun i => some (i * 1, 1)) [(.int .i64 0), (.int .i64 0)] (parts.toList.map fun p => (p.1, ρ p.2))) (fun cs => K (.sl σ.length 0 2 (.exact 2)) (σ ++ [.cells cs 3])) ⟨⟩ := fun parts => ax_buildSlice u_175 tS_3 tC_3 parts (by decide)
theorem cb_46 : callable Try.prog 46 = true := by kernel_rfl
theorem u_22 : Try.prog.underlying 22 = some (.int .u64) := by kernel_rfl
theorem st_25 : ∀ (i o : Nat) (v : AV) (σ : Store), aStore Try.prog 25 (.ptr i o) v σ = aStoreK 3 i o v σ := aStore_K tS_25
theorem cb_49 : callable Try.prog 49 = true := by kernel_rfl
theorem bs_28_1 : ∀ {call : CallT} {ρ : Operand → AV} {K : Kont} {σ : Store} (parts : Array (Nat × Operand)), aexec Try.prog call ρ (.buildSlice 28 1 parts) K σ = oB (afill (fun i => some (i * 3, 3)) [(.str []), (.int .u64 0), .slNil] (parts.toList.map fun p => (p.1, ρ p.2))) (fun cs => K (.sl σ.length 0 1 (.exact 1)) (σ ++ [.cells cs 25])) ⟨⟩ := fun parts => ax_buildSlice u_28 tS_25 tC_25 parts (by decide)
theorem ap1_28_28 : ∀ {rows : List (List AV)} {cap : Cap} {i : Nat} {cs : List AV} {ty : TypeId} {c2 : Cap} {σ σ1 : Store} (hi : σ[i]? = some (.cells cs ty)) (hl : cs.length = 3) (hone : cs.all AV.one = true) (hroom : (rows.length + 1) * 48 ≤ 2 ^ 45 ∧ rows.length + 1 ≤ 2 ^ 45 ∧ 48 ≤ 2 ^ 32) (ht : imTake cap rows.length σ = some σ1), aAppend Try.prog #[28, 28] (.im 3 rows cap) (.sl i 0 1 c2) σ = some (.im 3 (rows ++ [cs]) (.tok σ.length), σ1 ++ [.tok]) := fun hi hl hone hroom ht => app_one u_28 tS_25 tC_25 tB_25 rfl u_28 hi hl hone hroom ht
theorem apm_28_28 : ∀ {rows rows2 : List (List AV)} {cap c2 : Cap} {σ σ1 : Store} (hone : rows2.flatten.all AV.one = true) (hroom : (rows.length + rows2.length) * 48 ≤ 2 ^ 45 ∧ rows.length + rows2.length ≤ 2 ^ 45 ∧ 48 ≤ 2 ^ 32) (hne : rows2 ≠ []) (ht : imTake cap rows.length σ = some σ1), aAppend Try.prog #[28, 28] (.im 3 rows cap) (.im 3 rows2 c2) σ = some (.im 3 (rows ++ rows2) (.tok σ.length), σ1 ++ [.tok]) := fun hone hroom hne ht => app_im u_28 tS_25 tC_25 tB_25 rfl u_28 rfl hone hroom hne ht
theorem apn_28_28 : ∀ {rows : List (List AV)} {cap c2 : Cap} {σ : Store}, aAppend Try.prog #[28, 28] (.im 3 rows cap) (.im 3 [] c2) σ = some (.im 3 rows cap, σ) := app_none u_28 tS_25 tC_25 rfl u_28 rfl
theorem apc_28_28 : ∀ {rows2 : List (List AV)} {i o : Nat} {c2 : Cap} {σ : Store} (hroom : rows2.length * 48 ≤ 2 ^ 45 ∧ rows2.length ≤ 2 ^ 45 ∧ 48 ≤ 2 ^ 32) (hne : rows2 ≠ []), aAppend Try.prog #[28, 28] (.sl i o 0 (.exact 0)) (.im 3 rows2 c2) σ = some (.sl σ.length 0 rows2.length (.spare 3), σ ++ [.cells rows2.flatten 25]) ∧ aAppend Try.prog #[28, 28] .slNil (.im 3 rows2 c2) σ = some (.sl σ.length 0 rows2.length (.spare 3), σ ++ [.cells rows2.flatten 25]) := fun hroom hne => app_new u_28 tS_25 tC_25 tB_25 rfl u_28 rfl hroom hne
theorem gr1_28_28 : ∀ {σ g : Store} {rows : List (List AV)} {cap : Cap} {cs : List AV} {ty : TypeId} (hown : Own σ.length cap rows.length (σ ++ g)) (hl : cs.length = 3) (hone : cs.all AV.one = true) (hroom : (rows.length + 1) * 48 ≤ 2 ^ 45 ∧ rows.length + 1 ≤ 2 ^ 45 ∧ 48 ≤ 2 ^ 32), ∃ g' cap', aAppend Try.prog #[28, 28] (.im 3 rows cap) (.sl (σ.length + g.length) 0 1 (.exact 1)) (σ ++ (g ++ [.cells cs ty])) = some (.im 3 (rows ++ [cs]) cap', σ ++ g') ∧ Own σ.length cap' (rows.length + 1) (σ ++ g') := fun hown hl hone hroom => grow1 u_28 tS_25 tC_25 tB_25 rfl u_28 hown hl hone hroom
theorem grm_28_28 : ∀ {σ g : Store} {rows rows2 : List (List AV)} {cap c2 : Cap} (hown : Own σ.length cap rows.length (σ ++ g)) (hone : rows2.flatten.all AV.one = true) (hroom : (rows.length + rows2.length) * 48 ≤ 2 ^ 45 ∧ rows.length + rows2.length ≤ 2 ^ 45 ∧ 48 ≤ 2 ^ 32), ∃ g' cap', aAppend Try.prog #[28, 28] (.im 3 rows cap) (.im 3 rows2 c2) (σ ++ g) = some (.im 3 (rows ++ rows2) cap', σ ++ g') ∧ Own σ.length cap' (rows.length + rows2.length) (σ ++ g') := fun hown hone hroom => growM u_28 tS_25 tC_25 tB_25 rfl u_28 rfl hown hone hroom
theorem rg1_28_28 : ∀ {σ g : Store} {v : AV} {n : Nat} {cs new : List AV} {ty : TypeId} (hrow : Row (σ ++ g) 25 3 v n cs) (hf : ∀ r o n c, v = .sl r o n c → σ.length ≤ r) (hl : new.length = 3) (hone : new.all AV.one = true) (hroom : (n + 1) * 48 ≤ 2 ^ 45 ∧ n + 1 ≤ 2 ^ 45 ∧ 48 ≤ 2 ^ 32), ∃ g', aAppend Try.prog #[28, 28] v (.sl (σ.length + g.length) 0 1 (.exact 1)) (σ ++ (g ++ [.cells new ty])) = some (.sl (σ.length + (g.length + 1)) 0 (n + 1) (.spare 3), σ ++ g') ∧ g'.length = g.length + 2 ∧ Row (σ ++ g') 25 3 (.sl (σ.length + (g.length + 1)) 0 (n + 1) (.spare 3)) (n + 1) (cs ++ new) := fun hrow hf hl hone hroom => rowgrow1 u_28 tS_25 tC_25 tB_25 rfl u_28 hrow hf hl hone hroom
theorem cb_50 : callable Try.prog 50 = true := by kernel_rfl
theorem cb_51 : callable Try.prog 51 = true := by kernel_rfl
theorem cb_53 : callable Try.prog 53 = true := by kernel_rfl
theorem cb_54 : callable Try.prog 54 = true := by kernel_rfl
theorem lnm_175 : ∀ (k : Nat) (rows : List (List AV)) (cap : Cap) (σ : Store), aBuiltin Try.prog .len #[175] [.im k rows cap] σ = some (.int .i64 rows.length) := by
  intros; kernel_rfl
theorem lns_175 : ∀ (i o n : Nat) (cap : Cap) (σ : Store), aBuiltin Try.prog .len #[175] [.sl i o n cap] σ = some (.int .i64 n) := by
  intros; kernel_rfl
theorem lnn_175 : ∀ (σ : Store), aBuiltin Try.prog .len #[175] [.slNil] σ = some (.int .i64 0) := by
  intros; kernel_rfl
theorem lne_175 : ∀ (σ : Store), aBuiltin Try.prog .len #[175] [.sle] σ = some (.int .i64 0) := by
  intros; kernel_rfl
theorem ix_175 : ∀ (i o n : Nat) (cap : Cap) (k : IntKind) (j : Int), aIndexAddr Try.prog 175 (.sl i o n cap) (.int k j) = if 0 ≤ j ∧ j < n then some (.ptr i (o + j.toNat * 1)) else none := by
  intros; kernel_rfl
theorem ixm_175 : ∀ (rows : List (List AV)) (cap : Cap) (k : IntKind) (j : Int), aIndexAddr Try.prog 175 (.im 1 rows cap) (.int k j) = if 0 ≤ j then (rows[j.toNat]?).map (fun r => AV.imp r 0) else none := fun rows cap k j => aIndexAddr_im (by kernel_rfl) (show tySize Try.prog 3 = _ by kernel_rfl) rows cap k j
theorem ld_3 : ∀ (i o : Nat) (σ : Store), aLoad Try.prog 3 (.ptr i o) σ = rdCell σ i o := by
  intros; kernel_rfl
theorem ldm_3 : ∀ (r : List AV) (o : Nat) (σ : Store), aLoad Try.prog 3 (.imp r o) σ = r[o]? := by
  intros; kernel_rfl
theorem cb_89 : callable Try.prog 89 = true := by kernel_rfl
theorem cb_90 : callable Try.prog 90 = true := by kernel_rfl
theorem cb_91 : callable Try.prog 91 = true := by kernel_rfl
theorem tS_23 : tySize Try.prog 23 = some 1 := by kernel_rfl
theorem st_23 : ∀ (i o : Nat) (v : AV) (σ : Store), aStore Try.prog 23 (.ptr i o) v σ = aStoreK 1 i o v σ := aStore_K tS_23
theorem cb_92 : callable Try.prog 92 = true := by kernel_rfl
theorem slm_28 : ∀ (rows : List (List AV)) (cap : Cap) (lo hi mx : Option AV), aSlice Try.prog 28 (.im 3 rows cap) lo hi mx = aSliceIm 3 rows cap lo hi mx := fun rows cap lo hi mx => aSlice_im u_28 tS_25 rows cap lo hi mx
theorem slsa_28 : ∀ {i o n : Nat} {q : IntKind} {a : Int} (h0 : 0 ≤ a) (h1 : a ≤ n), aSlice Try.prog 28 (.sl i o n (.spare 3)) (some (.int q a)) none none = some (.sl i (o + a.toNat * 3) (n - a.toNat) (.spare 3)) := by intros; exact sls_a u_28 tS_25 (by assumption) (by assumption)
theorem slsb_28 : ∀ {i o n : Nat} {q : IntKind} {b : Int} (h0 : 0 ≤ b) (h1 : b ≤ n), aSlice Try.prog 28 (.sl i o n (.spare 3)) none (some (.int q b)) none = some (.sl i o b.toNat (.spare 3)) := by intros; exact sls_b u_28 tS_25 (by assumption) (by assumption)
theorem slsab_28 : ∀ {i o n : Nat} {q q' : IntKind} {a b : Int} (h0 : 0 ≤ a) (h2 : a ≤ b) (h1 : b ≤ n), aSlice Try.prog 28 (.sl i o n (.spare 3)) (some (.int q a)) (some (.int q' b)) none = some (.sl i (o + a.toNat * 3) (b.toNat - a.toNat) (.spare 3)) := by intros; exact sls_ab u_28 tS_25 (by assumption) (by assumption) (by assumption)
theorem ck_23_9 : ∀ (x : Operand), opKind Try.prog (.convert 23 9 x) = 0 := by
  intros; kernel_rfl
theorem cvm_23_9 : ∀ (rows : List (List AV)) (cap : Cap) (σ : Store), aConv Try.prog 23 9 (.im 1 rows cap) σ = (bytesOf rows.flatten).map .str := fun rows cap σ => aConv_im (e := 5) (by kernel_rfl) (by kernel_rfl) (by kernel_rfl) rows cap σ
theorem cvn_23_9 : ∀ (σ : Store), aConv Try.prog 23 9 .slNil σ = some (.str []) := by
  intros; kernel_rfl
theorem cvr_23_9 : ∀ (i o n : Nat) (cap : Cap) (σ : Store), aConv Try.prog 23 9 (.sl i o n cap) σ = (rdCells σ i o n).bind fun vs => (bytesOf vs).map .str := fun i o n cap σ => aConv_sl (e := 5) (by kernel_rfl) (by kernel_rfl) (by kernel_rfl) i o n cap σ
theorem en0_23 : ∀ (cx : Bool), aBin Try.prog .eql 23 cx .slNil .slNil = some (.bool true) := by
  intros; kernel_rfl
theorem en1_23 : ∀ (cx : Bool), aBin Try.prog .eql 23 cx .sle .slNil = some (.bool false) := by
  intros; kernel_rfl
theorem en2_23 : ∀ (cx : Bool) (k : Nat) (r : List AV) (rs : List (List AV)) (c : Cap), aBin Try.prog .eql 23 cx (.im k (r :: rs) c) .slNil = some (.bool false) := by
  intros; kernel_rfl
theorem en3_23 : ∀ (cx : Bool) (i o n : Nat) (c : Cap), aBin Try.prog .eql 23 cx (.sl i o n c) .slNil = some (.bool false) := by
  intros; kernel_rfl
theorem bs_23_0 : ∀ {call : CallT} {ρ : Operand → AV} {K : Kont} {σ : Store} (parts : Array (Nat × Operand)), aexec Try.prog call ρ (.buildSlice 23 0 parts) K σ = oB (afill (fun i => some (i * 1, 1)) [] (parts.toList.map fun p => (p.1, ρ p.2))) (fun cs => K (.sl σ.length 0 0 (.exact 0)) (σ ++ [.cells cs 5])) ⟨⟩ := fun parts => ax_buildSlice u_23 tS_5 tC_5 parts (by decide)
theorem ap1_23_23 : ∀ {rows : List (List AV)} {cap : Cap} {i : Nat} {cs : List AV} {ty : TypeId} {c2 : Cap} {σ σ1 : Store} (hi : σ[i]? = some (.cells cs ty)) (hl : cs.length = 1) (hone : cs.all AV.one = true) (hroom : (rows.length + 1) * 1 ≤ 2 ^ 45 ∧ rows.length + 1 ≤ 2 ^ 45 ∧ 1 ≤ 2 ^ 32) (ht : imTake cap rows.length σ = some σ1), aAppend Try.prog #[23, 23] (.im 1 rows cap) (.sl i 0 1 c2) σ = some (.im 1 (rows ++ [cs]) (.tok σ.length), σ1 ++ [.tok]) := fun hi hl hone hroom ht => app_one u_23 tS_5 tC_5 tB_5 rfl u_23 hi hl hone hroom ht
theorem apm_23_23 : ∀ {rows rows2 : List (List AV)} {cap c2 : Cap} {σ σ1 : Store} (hone : rows2.flatten.all AV.one = true) (hroom : (rows.length + rows2.length) * 1 ≤ 2 ^ 45 ∧ rows.length + rows2.length ≤ 2 ^ 45 ∧ 1 ≤ 2 ^ 32) (hne : rows2 ≠ []) (ht : imTake cap rows.length σ = some σ1), aAppend Try.prog #[23, 23] (.im 1 rows cap) (.im 1 rows2 c2) σ = some (.im 1 (rows ++ rows2) (.tok σ.length), σ1 ++ [.tok]) := fun hone hroom hne ht => app_im u_23 tS_5 tC_5 tB_5 rfl u_23 rfl hone hroom hne ht
theorem apn_23_23 : ∀ {rows : List (List AV)} {cap c2 : Cap} {σ : Store}, aAppend Try.prog #[23, 23] (.im 1 rows cap) (.im 1 [] c2) σ = some (.im 1 rows cap, σ) := app_none u_23 tS_5 tC_5 rfl u_23 rfl
theorem apc_23_23 : ∀ {rows2 : List (List AV)} {i o : Nat} {c2 : Cap} {σ : Store} (hroom : rows2.length * 1 ≤ 2 ^ 45 ∧ rows2.length ≤ 2 ^ 45 ∧ 1 ≤ 2 ^ 32) (hne : rows2 ≠ []), aAppend Try.prog #[23, 23] (.sl i o 0 (.exact 0)) (.im 1 rows2 c2) σ = some (.sl σ.length 0 rows2.length (.spare 1), σ ++ [.cells rows2.flatten 5]) ∧ aAppend Try.prog #[23, 23] .slNil (.im 1 rows2 c2) σ = some (.sl σ.length 0 rows2.length (.spare 1), σ ++ [.cells rows2.flatten 5]) := fun hroom hne => app_new u_23 tS_5 tC_5 tB_5 rfl u_23 rfl hroom hne
theorem gr1_23_23 : ∀ {σ g : Store} {rows : List (List AV)} {cap : Cap} {cs : List AV} {ty : TypeId} (hown : Own σ.length cap rows.length (σ ++ g)) (hl : cs.length = 1) (hone : cs.all AV.one = true) (hroom : (rows.length + 1) * 1 ≤ 2 ^ 45 ∧ rows.length + 1 ≤ 2 ^ 45 ∧ 1 ≤ 2 ^ 32), ∃ g' cap', aAppend Try.prog #[23, 23] (.im 1 rows cap) (.sl (σ.length + g.length) 0 1 (.exact 1)) (σ ++ (g ++ [.cells cs ty])) = some (.im 1 (rows ++ [cs]) cap', σ ++ g') ∧ Own σ.length cap' (rows.length + 1) (σ ++ g') := fun hown hl hone hroom => grow1 u_23 tS_5 tC_5 tB_5 rfl u_23 hown hl hone hroom
theorem grm_23_23 : ∀ {σ g : Store} {rows rows2 : List (List AV)} {cap c2 : Cap} (hown : Own σ.length cap rows.length (σ ++ g)) (hone : rows2.flatten.all AV.one = true) (hroom : (rows.length + rows2.length) * 1 ≤ 2 ^ 45 ∧ rows.length + rows2.length ≤ 2 ^ 45 ∧ 1 ≤ 2 ^ 32), ∃ g' cap', aAppend Try.prog #[23, 23] (.im 1 rows cap) (.im 1 rows2 c2) (σ ++ g) = some (.im 1 (rows ++ rows2) cap', σ ++ g') ∧ Own σ.length cap' (rows.length + rows2.length) (σ ++ g') := fun hown hone hroom => growM u_23 tS_5 tC_5 tB_5 rfl u_23 rfl hown hone hroom
theorem rg1_23_23 : ∀ {σ g : Store} {v : AV} {n : Nat} {cs new : List AV} {ty : TypeId} (hrow : Row (σ ++ g) 5 1 v n cs) (hf : ∀ r o n c, v = .sl r o n c → σ.length ≤ r) (hl : new.length = 1) (hone : new.all AV.one = true) (hroom : (n + 1) * 1 ≤ 2 ^ 45 ∧ n + 1 ≤ 2 ^ 45 ∧ 1 ≤ 2 ^ 32), ∃ g', aAppend Try.prog #[23, 23] v (.sl (σ.length + g.length) 0 1 (.exact 1)) (σ ++ (g ++ [.cells new ty])) = some (.sl (σ.length + (g.length + 1)) 0 (n + 1) (.spare 1), σ ++ g') ∧ g'.length = g.length + 2 ∧ Row (σ ++ g') 5 1 (.sl (σ.length + (g.length + 1)) 0 (n + 1) (.spare 1)) (n + 1) (cs ++ new) := fun hrow hf hl hone hroom => rowgrow1 u_23 tS_5 tC_5 tB_5 rfl u_23 hrow hf hl hone hroom
theorem cb_110 : callable Try.prog 110 = true := by kernel_rfl
theorem cb_111 : callable Try.prog 111 = true := by kernel_rfl
theorem ck_3_195 : ∀ (x : Operand), opKind Try.prog (.convert 3 195 x) = 0 := by
  intros; kernel_rfl
theorem cv_3_195 : ∀ (k : IntKind) (n : Int) (σ : Store), aConv Try.prog 3 195 (.int k n) σ = some (.int .u64 (IntKind.wrap .u64 n)) := by
  intros; kernel_rfl
theorem u_195 : Try.prog.underlying 195 = some (.int .u64) := by kernel_rfl
theorem ck_195_3 : ∀ (x : Operand), opKind Try.prog (.convert 195 3 x) = 0 := by
  intros; kernel_rfl
theorem cv_195_3 : ∀ (k : IntKind) (n : Int) (σ : Store), aConv Try.prog 195 3 (.int k n) σ = some (.int .i64 (IntKind.wrap .i64 n)) := by
  intros; kernel_rfl
theorem cb_119 : callable Try.prog 119 = true := by kernel_rfl
theorem cb_131 : callable Try.prog 131 = true := by kernel_rfl
/- 3 flint/flintlaw11.FactMerges -/
def d3S0 : Cd :=
  .sts [
    ⟨some 20, .move (.tmp 8), none, []⟩,
    ⟨some 21, .binOp .add 3 (.tmp 20) (.const (.int .i64 1)) 3, none, []⟩,
    ⟨some 8, .assign (.tmp 21), none, []⟩]
def d3S1 : Cd :=
  .seq (.block 1 (.seq (.sts [
    ⟨some 22, .move (.tmp 7), none, []⟩,
    ⟨some 23, .move (.tmp 2), none, []⟩,
    ⟨some 24, .move (.tmp 8), none, []⟩,
    ⟨some 25, .indexAddr 26 (.tmp 23) (.tmp 24), none, []⟩,
    ⟨some 26, .load 28 (.tmp 25), none, []⟩,
    ⟨some 27, .call { callee := .builtin .len, args := #[(.tmp 26)], argTypes := #[28] }, none, []⟩,
    ⟨some 28, .binOp .add 3 (.tmp 22) (.tmp 27) 3, none, []⟩,
    ⟨some 7, .assign (.tmp 28), none, []⟩]) (.seq (.sts [
    ⟨some 29, .move (.tmp 2), none, []⟩,
    ⟨some 30, .move (.tmp 8), none, []⟩,
    ⟨some 31, .indexAddr 26 (.tmp 29) (.tmp 30), none, []⟩,
    ⟨some 32, .load 28 (.tmp 31), none, []⟩,
    ⟨some 33, .call { callee := .value (.func 9), args := #[(.tmp 32), (.const (.int .i64 400))], argTypes := #[28, 3] }, none, []⟩,
    ⟨some 34, .unOp .not 4 (.tmp 33), none, []⟩]) (.cond (.tmp 34) (.seq (.sts [
    ⟨some 6, .assign (.const (.bool true)), none, []⟩]) (.ret)) (.skip))))) d3S0
def d3L0 : Cd :=
  .seq (.seq (.sts [
    ⟨some 16, .move (.tmp 8), none, []⟩,
    ⟨some 17, .move (.tmp 2), none, []⟩,
    ⟨some 18, .call { callee := .builtin .len, args := #[(.tmp 17)], argTypes := #[26] }, none, []⟩,
    ⟨some 19, .binOp .lss 3 (.tmp 16) (.tmp 18) 3, none, []⟩]) (.cond (.tmp 19) (.skip) (.exit 0))) d3S1
def d3S2 : Cd :=
  .sts [
    ⟨some 53, .move (.tmp 9), none, []⟩,
    ⟨some 54, .binOp .add 3 (.tmp 53) (.const (.int .i64 1)) 3, none, []⟩,
    ⟨some 9, .assign (.tmp 54), none, []⟩]
def d3S3 : Cd :=
  .seq (.block 3 (.seq (.sts [
    ⟨some 55, .move (.tmp 2), none, []⟩,
    ⟨some 56, .move (.tmp 9), none, []⟩,
    ⟨some 57, .indexAddr 26 (.tmp 55) (.tmp 56), none, []⟩,
    ⟨some 58, .load 28 (.tmp 57), none, []⟩,
    ⟨some 60, .move (.tmp 2), none, []⟩,
    ⟨some 61, .move (.tmp 9), none, []⟩,
    ⟨some 62, .indexAddr 26 (.tmp 60) (.tmp 61), none, []⟩,
    ⟨some 63, .load 28 (.tmp 62), none, []⟩,
    ⟨some 59, .call { callee := .value (.func 12), args := #[(.tmp 58)], argTypes := #[28] }, none, [⟨some 63, .load 28 (.tmp 62), none, false⟩]⟩,
    ⟨some 64, .call { callee := .value (.func 13), args := #[(.tmp 63)], argTypes := #[28] }, none, [⟨some 58, .load 28 (.tmp 57), none, false⟩]⟩,
    ⟨some 65, .binOp .neq 4 (.tmp 59) (.tmp 64) 4, none, []⟩]) (.cond (.tmp 65) (.seq (.sts [
    ⟨some 6, .assign (.const (.bool false)), none, []⟩]) (.ret)) (.skip)))) d3S2
def d3L1 : Cd :=
  .seq (.seq (.sts [
    ⟨some 49, .move (.tmp 9), none, []⟩,
    ⟨some 50, .move (.tmp 2), none, []⟩,
    ⟨some 51, .call { callee := .builtin .len, args := #[(.tmp 50)], argTypes := #[26] }, none, []⟩,
    ⟨some 52, .binOp .lss 3 (.tmp 49) (.tmp 51) 3, none, []⟩]) (.cond (.tmp 52) (.skip) (.exit 2))) d3S3
def d3S4 : Cd :=
  .seq (.sts [
    ⟨some 67, .move (.tmp 2), none, []⟩,
    ⟨some 68, .call { callee := .value (.func 14), args := #[(.tmp 67)], argTypes := #[26] }, none, []⟩,
    ⟨some 66, .move (.tmp 68), none, []⟩,
    ⟨some 69, .extract (.tmp 66) 0, none, []⟩,
    ⟨some 70, .extract (.tmp 66) 1, none, []⟩,
    ⟨some 10, .assign (.tmp 69), none, []⟩,
    ⟨some 11, .assign (.tmp 70), none, []⟩]) (.seq (.sts [
    ⟨some 72, .move (.tmp 2), none, []⟩,
    ⟨some 73, .call { callee := .value (.func 15), args := #[(.tmp 72)], argTypes := #[26] }, none, []⟩,
    ⟨some 71, .move (.tmp 73), none, []⟩,
    ⟨some 74, .extract (.tmp 71) 0, none, []⟩,
    ⟨some 75, .extract (.tmp 71) 1, none, []⟩,
    ⟨some 12, .assign (.tmp 74), none, []⟩,
    ⟨some 13, .assign (.tmp 75), none, []⟩]) (.seq (.sts [
    ⟨some 76, .move (.tmp 10), none, []⟩,
    ⟨some 77, .move (.tmp 12), none, []⟩,
    ⟨some 78, .call { callee := .value (.func 16), args := #[(.tmp 76), (.tmp 77)], argTypes := #[28, 28] }, none, []⟩,
    ⟨some 79, .move (.tmp 78), none, []⟩,
    ⟨some 80, .move (.tmp 11), some (some 79, true), []⟩,
    ⟨some 81, .move (.tmp 13), some (some 79, true), []⟩,
    ⟨some 82, .binOp .eql 3 (.tmp 80) (.tmp 81) 3, some (some 79, true), []⟩,
    ⟨some 83, .pick (.tmp 79) (.tmp 82) (.const (.bool false)), none, []⟩,
    ⟨some 6, .assign (.tmp 83), none, []⟩]) (.ret)))
def d3S5 : Cd :=
  .seq (.seq (.sts [
    ⟨some 9, .assign (.const (.int .i64 0)), none, []⟩]) (.block 2 (.loop d3L1))) d3S4
def d3S6 : Cd :=
  .seq (.seq (.sts [
    ⟨some 42, .load 25 (.tmp 3), none, []⟩,
    ⟨some 43, .load 25 (.tmp 4), none, []⟩,
    ⟨some 45, .load 25 (.tmp 3), none, []⟩,
    ⟨some 46, .load 25 (.tmp 4), none, []⟩,
    ⟨some 44, .call { callee := .value (.func 10), args := #[(.tmp 42), (.tmp 43)], argTypes := #[25, 25] }, none, [⟨some 45, .load 25 (.tmp 3), none, false⟩, ⟨some 46, .load 25 (.tmp 4), none, false⟩]⟩,
    ⟨some 47, .call { callee := .value (.func 11), args := #[(.tmp 45), (.tmp 46)], argTypes := #[25, 25] }, none, [⟨some 42, .load 25 (.tmp 3), none, false⟩, ⟨some 43, .load 25 (.tmp 4), none, false⟩]⟩,
    ⟨some 48, .binOp .neq 3 (.tmp 44) (.tmp 47) 3, none, []⟩]) (.cond (.tmp 48) (.seq (.sts [
    ⟨some 6, .assign (.const (.bool false)), none, []⟩]) (.ret)) (.skip))) d3S5
def d3S7 : Cd :=
  .seq (.seq (.sts [
    ⟨some 35, .move (.tmp 2), none, []⟩,
    ⟨some 36, .call { callee := .builtin .len, args := #[(.tmp 35)], argTypes := #[26] }, none, []⟩,
    ⟨some 37, .binOp .gtr 3 (.tmp 36) (.const (.int .i64 20)) 3, none, []⟩,
    ⟨some 38, .move (.tmp 37), none, []⟩,
    ⟨some 39, .move (.tmp 7), some (some 38, false), []⟩,
    ⟨some 40, .binOp .gtr 3 (.tmp 39) (.const (.int .i64 800)) 3, some (some 38, false), []⟩,
    ⟨some 41, .pick (.tmp 38) (.const (.bool true)) (.tmp 40), none, []⟩]) (.cond (.tmp 41) (.seq (.sts [
    ⟨some 6, .assign (.const (.bool true)), none, []⟩]) (.ret)) (.skip))) d3S6
def d3S8 : Cd :=
  .seq (.sts [
    ⟨some 7, .assign (.const (.int .i64 0)), none, []⟩]) (.seq (.seq (.sts [
    ⟨some 8, .assign (.const (.int .i64 0)), none, []⟩]) (.block 0 (.loop d3L0))) d3S7)
def d3 : Cd :=
  .seq (.sts [
    ⟨some 3, .box 25 (.tmp 0), none, []⟩,
    ⟨some 4, .box 25 (.tmp 1), none, []⟩,
    ⟨some 6, .assign (.const (.bool false)), none, []⟩]) (.seq (.seq (.sts [
    ⟨some 14, .call { callee := .value (.func 8), args := #[], argTypes := #[] }, none, []⟩,
    ⟨some 15, .unOp .not 4 (.tmp 14), none, []⟩]) (.cond (.tmp 15) (.seq (.sts [
    ⟨some 6, .assign (.const (.bool false)), none, []⟩]) (.ret)) (.skip))) d3S8)
theorem cd3 : (Try.f3.body.bind (compile Try.prog)) = some d3 := by kernel_rfl
theorem go3 {T : Table} (hT : T 3 = none) {args : List AV} {K : Kont} {σ : Store} (hl : args.length ≤ 84) (h : wpD Try.prog (acall Try.prog T) 84 d3 (retD Try.prog [.tmp 6] K) (env0 args) σ) : acall Try.prog T 3 args K σ :=
  acall_of hT (fn := Try.f3) (by kernel_rfl) cd3 (m := 84) rfl (rs := [.tmp 6]) rfl hl h
/- 4 flint/flintlaw11.FactSteps -/
def d4S0 : Cd :=
  .seq (.sts [
    ⟨some 46, .move (.tmp 0), none, []⟩,
    ⟨some 47, .move (.tmp 1), none, []⟩,
    ⟨some 48, .move (.tmp 2), none, []⟩,
    ⟨some 49, .buildSlice 26 3 #[(0, (.tmp 46)), (1, (.tmp 47)), (2, (.tmp 48))], none, []⟩,
    ⟨some 50, .call { callee := .value (.func 14), args := #[(.tmp 49)], argTypes := #[26] }, none, []⟩,
    ⟨some 45, .move (.tmp 50), none, []⟩,
    ⟨some 51, .extract (.tmp 45) 0, none, []⟩,
    ⟨some 52, .extract (.tmp 45) 1, none, []⟩,
    ⟨some 7, .assign (.tmp 51), none, []⟩,
    ⟨some 8, .assign (.tmp 52), none, []⟩]) (.seq (.sts [
    ⟨some 54, .move (.tmp 0), none, []⟩,
    ⟨some 55, .move (.tmp 1), none, []⟩,
    ⟨some 56, .buildSlice 26 2 #[(0, (.tmp 54)), (1, (.tmp 55))], none, []⟩,
    ⟨some 57, .call { callee := .value (.func 14), args := #[(.tmp 56)], argTypes := #[26] }, none, []⟩,
    ⟨some 53, .move (.tmp 57), none, []⟩,
    ⟨some 58, .extract (.tmp 53) 0, none, []⟩,
    ⟨some 59, .extract (.tmp 53) 1, none, []⟩,
    ⟨some 9, .assign (.tmp 58), none, []⟩,
    ⟨some 10, .assign (.tmp 59), none, []⟩]) (.seq (.sts [
    ⟨some 61, .move (.tmp 9), none, []⟩,
    ⟨some 62, .move (.tmp 2), none, []⟩,
    ⟨some 63, .buildSlice 26 2 #[(0, (.tmp 61)), (1, (.tmp 62))], none, []⟩,
    ⟨some 64, .call { callee := .value (.func 14), args := #[(.tmp 63)], argTypes := #[26] }, none, []⟩,
    ⟨some 60, .move (.tmp 64), none, []⟩,
    ⟨some 65, .extract (.tmp 60) 0, none, []⟩,
    ⟨some 66, .extract (.tmp 60) 1, none, []⟩,
    ⟨some 9, .assign (.tmp 65), none, []⟩,
    ⟨some 11, .assign (.tmp 66), none, []⟩]) (.seq (.sts [
    ⟨some 68, .move (.tmp 1), none, []⟩,
    ⟨some 69, .move (.tmp 2), none, []⟩,
    ⟨some 70, .buildSlice 26 2 #[(0, (.tmp 68)), (1, (.tmp 69))], none, []⟩,
    ⟨some 71, .call { callee := .value (.func 14), args := #[(.tmp 70)], argTypes := #[26] }, none, []⟩,
    ⟨some 67, .move (.tmp 71), none, []⟩,
    ⟨some 72, .extract (.tmp 67) 0, none, []⟩,
    ⟨some 73, .extract (.tmp 67) 1, none, []⟩,
    ⟨some 12, .assign (.tmp 72), none, []⟩,
    ⟨some 13, .assign (.tmp 73), none, []⟩]) (.seq (.sts [
    ⟨some 75, .move (.tmp 0), none, []⟩,
    ⟨some 76, .move (.tmp 12), none, []⟩,
    ⟨some 77, .buildSlice 26 2 #[(0, (.tmp 75)), (1, (.tmp 76))], none, []⟩,
    ⟨some 78, .call { callee := .value (.func 14), args := #[(.tmp 77)], argTypes := #[26] }, none, []⟩,
    ⟨some 74, .move (.tmp 78), none, []⟩,
    ⟨some 79, .extract (.tmp 74) 0, none, []⟩,
    ⟨some 80, .extract (.tmp 74) 1, none, []⟩,
    ⟨some 12, .assign (.tmp 79), none, []⟩,
    ⟨some 14, .assign (.tmp 80), none, []⟩]) (.seq (.sts [
    ⟨some 81, .move (.tmp 8), none, []⟩,
    ⟨some 82, .move (.tmp 10), none, []⟩,
    ⟨some 83, .binOp .add 3 (.tmp 81) (.tmp 82) 3, none, []⟩,
    ⟨some 84, .move (.tmp 11), none, []⟩,
    ⟨some 85, .binOp .add 3 (.tmp 83) (.tmp 84) 3, none, []⟩,
    ⟨some 86, .move (.tmp 13), none, []⟩,
    ⟨some 87, .binOp .add 3 (.tmp 85) (.tmp 86) 3, none, []⟩,
    ⟨some 88, .move (.tmp 14), none, []⟩,
    ⟨some 89, .binOp .add 3 (.tmp 87) (.tmp 88) 3, none, []⟩,
    ⟨some 90, .binOp .eql 3 (.tmp 89) (.const (.int .i64 0)) 3, none, []⟩,
    ⟨some 91, .move (.tmp 90), none, []⟩,
    ⟨some 92, .move (.tmp 7), some (some 91, true), []⟩,
    ⟨some 93, .move (.tmp 9), some (some 91, true), []⟩,
    ⟨some 94, .call { callee := .value (.func 16), args := #[(.tmp 92), (.tmp 93)], argTypes := #[28, 28] }, some (some 91, true), []⟩,
    ⟨some 95, .pick (.tmp 91) (.tmp 94) (.const (.bool false)), none, []⟩,
    ⟨some 96, .move (.tmp 95), none, []⟩,
    ⟨some 97, .move (.tmp 7), some (some 96, true), []⟩,
    ⟨some 98, .move (.tmp 12), some (some 96, true), []⟩,
    ⟨some 99, .call { callee := .value (.func 16), args := #[(.tmp 97), (.tmp 98)], argTypes := #[28, 28] }, some (some 96, true), []⟩,
    ⟨some 100, .pick (.tmp 96) (.tmp 99) (.const (.bool false)), none, []⟩,
    ⟨some 101, .move (.tmp 100), none, []⟩,
    ⟨some 102, .move (.tmp 7), some (some 101, true), []⟩,
    ⟨some 103, .call { callee := .value (.func 12), args := #[(.tmp 102)], argTypes := #[28] }, some (some 101, true), []⟩,
    ⟨some 104, .pick (.tmp 101) (.tmp 103) (.const (.bool false)), none, []⟩,
    ⟨some 6, .assign (.tmp 104), none, []⟩]) (.ret))))))
def d4S1 : Cd :=
  .seq (.seq (.sts [
    ⟨some 17, .move (.tmp 0), none, []⟩,
    ⟨some 18, .call { callee := .value (.func 9), args := #[(.tmp 17), (.const (.int .i64 400))], argTypes := #[28, 3] }, none, []⟩,
    ⟨some 19, .unOp .not 4 (.tmp 18), none, []⟩,
    ⟨some 20, .move (.tmp 19), none, []⟩,
    ⟨some 21, .move (.tmp 1), some (some 20, false), []⟩,
    ⟨some 22, .call { callee := .value (.func 9), args := #[(.tmp 21), (.const (.int .i64 400))], argTypes := #[28, 3] }, some (some 20, false), []⟩,
    ⟨some 23, .unOp .not 4 (.tmp 22), some (some 20, false), []⟩,
    ⟨some 24, .pick (.tmp 20) (.const (.bool true)) (.tmp 23), none, []⟩,
    ⟨some 25, .move (.tmp 24), none, []⟩,
    ⟨some 26, .move (.tmp 2), some (some 25, false), []⟩,
    ⟨some 27, .call { callee := .value (.func 9), args := #[(.tmp 26), (.const (.int .i64 400))], argTypes := #[28, 3] }, some (some 25, false), []⟩,
    ⟨some 28, .unOp .not 4 (.tmp 27), some (some 25, false), []⟩,
    ⟨some 29, .pick (.tmp 25) (.const (.bool true)) (.tmp 28), none, []⟩,
    ⟨some 30, .move (.tmp 29), none, []⟩,
    ⟨some 31, .move (.tmp 0), some (some 30, false), []⟩,
    ⟨some 32, .call { callee := .value (.func 13), args := #[(.tmp 31)], argTypes := #[28] }, some (some 30, false), []⟩,
    ⟨some 33, .unOp .not 4 (.tmp 32), some (some 30, false), []⟩,
    ⟨some 34, .pick (.tmp 30) (.const (.bool true)) (.tmp 33), none, []⟩,
    ⟨some 35, .move (.tmp 34), none, []⟩,
    ⟨some 36, .move (.tmp 1), some (some 35, false), []⟩,
    ⟨some 37, .call { callee := .value (.func 13), args := #[(.tmp 36)], argTypes := #[28] }, some (some 35, false), []⟩,
    ⟨some 38, .unOp .not 4 (.tmp 37), some (some 35, false), []⟩,
    ⟨some 39, .pick (.tmp 35) (.const (.bool true)) (.tmp 38), none, []⟩,
    ⟨some 40, .move (.tmp 39), none, []⟩,
    ⟨some 41, .move (.tmp 2), some (some 40, false), []⟩,
    ⟨some 42, .call { callee := .value (.func 13), args := #[(.tmp 41)], argTypes := #[28] }, some (some 40, false), []⟩,
    ⟨some 43, .unOp .not 4 (.tmp 42), some (some 40, false), []⟩,
    ⟨some 44, .pick (.tmp 40) (.const (.bool true)) (.tmp 43), none, []⟩]) (.cond (.tmp 44) (.seq (.sts [
    ⟨some 6, .assign (.const (.bool true)), none, []⟩]) (.ret)) (.skip))) d4S0
def d4 : Cd :=
  .seq (.sts [
    ⟨some 6, .assign (.const (.bool false)), none, []⟩]) (.seq (.seq (.sts [
    ⟨some 15, .call { callee := .value (.func 8), args := #[], argTypes := #[] }, none, []⟩,
    ⟨some 16, .unOp .not 4 (.tmp 15), none, []⟩]) (.cond (.tmp 16) (.seq (.sts [
    ⟨some 6, .assign (.const (.bool false)), none, []⟩]) (.ret)) (.skip))) d4S1)
theorem cd4 : (Try.f4.body.bind (compile Try.prog)) = some d4 := by kernel_rfl
theorem go4 {T : Table} (hT : T 4 = none) {args : List AV} {K : Kont} {σ : Store} (hl : args.length ≤ 105) (h : wpD Try.prog (acall Try.prog T) 105 d4 (retD Try.prog [.tmp 6] K) (env0 args) σ) : acall Try.prog T 4 args K σ :=
  acall_of hT (fn := Try.f4) (by kernel_rfl) cd4 (m := 105) rfl (rs := [.tmp 6]) rfl hl h
/- 9 flint/flintlaw11.Few -/
def d9S0 : Cd :=
  .seq (.block 1 (.sts [
    ⟨some 13, .move (.tmp 5), none, []⟩,
    ⟨some 14, .move (.tmp 0), none, []⟩,
    ⟨some 15, .move (.tmp 6), none, []⟩,
    ⟨some 16, .indexAddr 28 (.tmp 14) (.tmp 15), none, []⟩,
    ⟨some 17, .fieldAddr 25 (.tmp 16) 0, none, []⟩,
    ⟨some 18, .load 9 (.tmp 17), none, []⟩,
    ⟨some 19, .call { callee := .builtin .len, args := #[(.tmp 18)], argTypes := #[9] }, none, []⟩,
    ⟨some 20, .binOp .add 3 (.tmp 13) (.tmp 19) 3, none, []⟩,
    ⟨some 21, .move (.tmp 0), none, []⟩,
    ⟨some 22, .move (.tmp 6), none, []⟩,
    ⟨some 23, .indexAddr 28 (.tmp 21) (.tmp 22), none, []⟩,
    ⟨some 24, .fieldAddr 25 (.tmp 23) 2, none, []⟩,
    ⟨some 25, .load 23 (.tmp 24), none, []⟩,
    ⟨some 26, .call { callee := .builtin .len, args := #[(.tmp 25)], argTypes := #[23] }, none, []⟩,
    ⟨some 27, .binOp .add 3 (.tmp 20) (.tmp 26) 3, none, []⟩,
    ⟨some 5, .assign (.tmp 27), none, []⟩])) (.sts [
    ⟨some 11, .move (.tmp 6), none, []⟩,
    ⟨some 12, .binOp .add 3 (.tmp 11) (.const (.int .i64 1)) 3, none, []⟩,
    ⟨some 6, .assign (.tmp 12), none, []⟩])
def d9L0 : Cd :=
  .seq (.seq (.sts [
    ⟨some 7, .move (.tmp 6), none, []⟩,
    ⟨some 8, .move (.tmp 0), none, []⟩,
    ⟨some 9, .call { callee := .builtin .len, args := #[(.tmp 8)], argTypes := #[28] }, none, []⟩,
    ⟨some 10, .binOp .lss 3 (.tmp 7) (.tmp 9) 3, none, []⟩]) (.cond (.tmp 10) (.skip) (.exit 0))) d9S0
def d9S1 : Cd :=
  .seq (.sts [
    ⟨some 28, .move (.tmp 0), none, []⟩,
    ⟨some 29, .call { callee := .builtin .len, args := #[(.tmp 28)], argTypes := #[28] }, none, []⟩,
    ⟨some 30, .move (.tmp 1), none, []⟩,
    ⟨some 31, .binOp .leq 3 (.tmp 29) (.tmp 30) 3, none, []⟩,
    ⟨some 32, .move (.tmp 31), none, []⟩,
    ⟨some 33, .move (.tmp 5), some (some 32, true), []⟩,
    ⟨some 34, .binOp .leq 3 (.tmp 33) (.const (.int .i64 131072)) 3, some (some 32, true), []⟩,
    ⟨some 35, .pick (.tmp 32) (.tmp 34) (.const (.bool false)), none, []⟩,
    ⟨some 4, .assign (.tmp 35), none, []⟩]) (.ret)
def d9 : Cd :=
  .seq (.sts [
    ⟨some 4, .assign (.const (.bool false)), none, []⟩]) (.seq (.sts [
    ⟨some 5, .assign (.const (.int .i64 0)), none, []⟩]) (.seq (.seq (.sts [
    ⟨some 6, .assign (.const (.int .i64 0)), none, []⟩]) (.block 0 (.loop d9L0))) d9S1))
theorem cd9 : (Try.f9.body.bind (compile Try.prog)) = some d9 := by kernel_rfl
theorem go9 {T : Table} (hT : T 9 = none) {args : List AV} {K : Kont} {σ : Store} (hl : args.length ≤ 36) (h : wpD Try.prog (acall Try.prog T) 36 d9 (retD Try.prog [.tmp 4] K) (env0 args) σ) : acall Try.prog T 9 args K σ :=
  acall_of hT (fn := Try.f9) (by kernel_rfl) cd9 (m := 36) rfl (rs := [.tmp 4]) rfl hl h
/- 10 flint/fact.Compare -/
def d10 : Cd :=
  .seq (.sts [
    ⟨some 2, .box 25 (.tmp 0), none, []⟩,
    ⟨some 3, .box 25 (.tmp 1), none, []⟩,
    ⟨some 4, .assign (.const (.int .i64 0)), none, []⟩]) (.seq (.sts [
    ⟨some 5, .fieldAddr 25 (.tmp 2) 0, none, []⟩,
    ⟨some 6, .load 9 (.tmp 5), none, []⟩,
    ⟨some 7, .fieldAddr 25 (.tmp 3) 0, none, []⟩,
    ⟨some 8, .load 9 (.tmp 7), none, []⟩,
    ⟨some 10, .fieldAddr 25 (.tmp 3) 1, none, []⟩,
    ⟨some 11, .load 22 (.tmp 10), none, []⟩,
    ⟨some 12, .fieldAddr 25 (.tmp 2) 1, none, []⟩,
    ⟨some 13, .load 22 (.tmp 12), none, []⟩,
    ⟨some 9, .call { callee := .value (.func 47), args := #[(.tmp 6), (.tmp 8)], argTypes := #[9, 9] }, none, [⟨some 11, .load 22 (.tmp 10), none, false⟩, ⟨some 13, .load 22 (.tmp 12), none, false⟩]⟩,
    ⟨some 14, .call { callee := .value (.func 48), args := #[(.tmp 11), (.tmp 13)], argTypes := #[22, 22] }, none, [⟨some 6, .load 9 (.tmp 5), none, false⟩, ⟨some 8, .load 9 (.tmp 7), none, false⟩]⟩,
    ⟨some 15, .buildSlice 175 2 #[(0, (.tmp 9)), (1, (.tmp 14))], none, []⟩,
    ⟨some 16, .call { callee := .value (.func 46), args := #[(.tmp 15)], argTypes := #[175] }, none, [⟨some 6, .load 9 (.tmp 5), none, false⟩, ⟨some 8, .load 9 (.tmp 7), none, false⟩, ⟨some 11, .load 22 (.tmp 10), none, false⟩, ⟨some 13, .load 22 (.tmp 12), none, false⟩]⟩,
    ⟨some 4, .assign (.tmp 16), none, []⟩]) (.ret))
theorem cd10 : (Try.f10.body.bind (compile Try.prog)) = some d10 := by kernel_rfl
theorem go10 {T : Table} (hT : T 10 = none) {args : List AV} {K : Kont} {σ : Store} (hl : args.length ≤ 17) (h : wpD Try.prog (acall Try.prog T) 17 d10 (retD Try.prog [.tmp 4] K) (env0 args) σ) : acall Try.prog T 10 args K σ :=
  acall_of hT (fn := Try.f10) (by kernel_rfl) cd10 (m := 17) rfl (rs := [.tmp 4]) rfl hl h
/- 11 flint/flintref11.Compare -/
def d11S0 : Cd :=
  .seq (.sts [
    ⟨some 4, .assign (.const (.int .i64 0)), none, []⟩]) (.ret)
def d11S1 : Cd :=
  .seq (.seq (.sts [
    ⟨some 20, .fieldAddr 25 (.tmp 2) 1, none, []⟩,
    ⟨some 21, .load 22 (.tmp 20), none, []⟩,
    ⟨some 22, .fieldAddr 25 (.tmp 3) 1, none, []⟩,
    ⟨some 23, .load 22 (.tmp 22), none, []⟩,
    ⟨some 24, .binOp .lss 22 (.tmp 21) (.tmp 23) 22, none, []⟩]) (.cond (.tmp 24) (.seq (.sts [
    ⟨some 4, .assign (.const (.int .i64 1)), none, []⟩]) (.ret)) (.skip))) d11S0
def d11S2 : Cd :=
  .seq (.seq (.sts [
    ⟨some 15, .fieldAddr 25 (.tmp 2) 1, none, []⟩,
    ⟨some 16, .load 22 (.tmp 15), none, []⟩,
    ⟨some 17, .fieldAddr 25 (.tmp 3) 1, none, []⟩,
    ⟨some 18, .load 22 (.tmp 17), none, []⟩,
    ⟨some 19, .binOp .gtr 22 (.tmp 16) (.tmp 18) 22, none, []⟩]) (.cond (.tmp 19) (.seq (.sts [
    ⟨some 4, .assign (.const (.int .i64 (-1))), none, []⟩]) (.ret)) (.skip))) d11S1
def d11S3 : Cd :=
  .seq (.seq (.sts [
    ⟨some 10, .fieldAddr 25 (.tmp 2) 0, none, []⟩,
    ⟨some 11, .load 9 (.tmp 10), none, []⟩,
    ⟨some 12, .fieldAddr 25 (.tmp 3) 0, none, []⟩,
    ⟨some 13, .load 9 (.tmp 12), none, []⟩,
    ⟨some 14, .binOp .gtr 9 (.tmp 11) (.tmp 13) 9, none, []⟩]) (.cond (.tmp 14) (.seq (.sts [
    ⟨some 4, .assign (.const (.int .i64 1)), none, []⟩]) (.ret)) (.skip))) d11S2
def d11 : Cd :=
  .seq (.sts [
    ⟨some 2, .box 25 (.tmp 0), none, []⟩,
    ⟨some 3, .box 25 (.tmp 1), none, []⟩,
    ⟨some 4, .assign (.const (.int .i64 0)), none, []⟩]) (.seq (.seq (.sts [
    ⟨some 5, .fieldAddr 25 (.tmp 2) 0, none, []⟩,
    ⟨some 6, .load 9 (.tmp 5), none, []⟩,
    ⟨some 7, .fieldAddr 25 (.tmp 3) 0, none, []⟩,
    ⟨some 8, .load 9 (.tmp 7), none, []⟩,
    ⟨some 9, .binOp .lss 9 (.tmp 6) (.tmp 8) 9, none, []⟩]) (.cond (.tmp 9) (.seq (.sts [
    ⟨some 4, .assign (.const (.int .i64 (-1))), none, []⟩]) (.ret)) (.skip))) d11S3)
theorem cd11 : (Try.f11.body.bind (compile Try.prog)) = some d11 := by kernel_rfl
theorem go11 {T : Table} (hT : T 11 = none) {args : List AV} {K : Kont} {σ : Store} (hl : args.length ≤ 25) (h : wpD Try.prog (acall Try.prog T) 25 d11 (retD Try.prog [.tmp 4] K) (env0 args) σ) : acall Try.prog T 11 args K σ :=
  acall_of hT (fn := Try.f11) (by kernel_rfl) cd11 (m := 25) rfl (rs := [.tmp 4]) rfl hl h
/- 12 flint/fact.Right -/
def d12S0 : Cd :=
  .sts [
    ⟨some 8, .move (.tmp 3), none, []⟩,
    ⟨some 9, .binOp .add 3 (.tmp 8) (.const (.int .i64 1)) 3, none, []⟩,
    ⟨some 3, .assign (.tmp 9), none, []⟩]
def d12S1 : Cd :=
  .seq (.block 1 (.seq (.sts [
    ⟨some 10, .move (.tmp 0), none, []⟩,
    ⟨some 11, .move (.tmp 3), none, []⟩,
    ⟨some 12, .binOp .sub 3 (.tmp 11) (.const (.int .i64 1)) 3, none, []⟩,
    ⟨some 13, .indexAddr 28 (.tmp 10) (.tmp 12), none, []⟩,
    ⟨some 14, .load 25 (.tmp 13), none, []⟩,
    ⟨some 15, .move (.tmp 0), none, []⟩,
    ⟨some 16, .move (.tmp 3), none, []⟩,
    ⟨some 17, .indexAddr 28 (.tmp 15) (.tmp 16), none, []⟩,
    ⟨some 18, .load 25 (.tmp 17), none, []⟩,
    ⟨some 19, .call { callee := .value (.func 10), args := #[(.tmp 14), (.tmp 18)], argTypes := #[25, 25] }, none, []⟩,
    ⟨some 20, .binOp .geq 3 (.tmp 19) (.const (.int .i64 0)) 3, none, []⟩]) (.cond (.tmp 20) (.seq (.sts [
    ⟨some 2, .assign (.const (.bool false)), none, []⟩]) (.ret)) (.skip)))) d12S0
def d12L0 : Cd :=
  .seq (.seq (.sts [
    ⟨some 4, .move (.tmp 3), none, []⟩,
    ⟨some 5, .move (.tmp 0), none, []⟩,
    ⟨some 6, .call { callee := .builtin .len, args := #[(.tmp 5)], argTypes := #[28] }, none, []⟩,
    ⟨some 7, .binOp .lss 3 (.tmp 4) (.tmp 6) 3, none, []⟩]) (.cond (.tmp 7) (.skip) (.exit 0))) d12S1
def d12S2 : Cd :=
  .seq (.sts [
    ⟨some 2, .assign (.const (.bool true)), none, []⟩]) (.ret)
def d12 : Cd :=
  .seq (.sts [
    ⟨some 2, .assign (.const (.bool false)), none, []⟩]) (.seq (.seq (.sts [
    ⟨some 3, .assign (.const (.int .i64 1)), none, []⟩]) (.block 0 (.loop d12L0))) d12S2)
theorem cd12 : (Try.f12.body.bind (compile Try.prog)) = some d12 := by kernel_rfl
theorem go12 {T : Table} (hT : T 12 = none) {args : List AV} {K : Kont} {σ : Store} (hl : args.length ≤ 21) (h : wpD Try.prog (acall Try.prog T) 21 d12 (retD Try.prog [.tmp 2] K) (env0 args) σ) : acall Try.prog T 12 args K σ :=
  acall_of hT (fn := Try.f12) (by kernel_rfl) cd12 (m := 21) rfl (rs := [.tmp 2]) rfl hl h
/- 13 flint/flintref11.Right -/
def d13S0 : Cd :=
  .sts [
    ⟨some 8, .move (.tmp 3), none, []⟩,
    ⟨some 9, .binOp .add 3 (.tmp 8) (.const (.int .i64 1)) 3, none, []⟩,
    ⟨some 3, .assign (.tmp 9), none, []⟩]
def d13S1 : Cd :=
  .seq (.block 1 (.seq (.sts [
    ⟨some 10, .move (.tmp 0), none, []⟩,
    ⟨some 11, .move (.tmp 3), none, []⟩,
    ⟨some 12, .binOp .sub 3 (.tmp 11) (.const (.int .i64 1)) 3, none, []⟩,
    ⟨some 13, .indexAddr 28 (.tmp 10) (.tmp 12), none, []⟩,
    ⟨some 14, .load 25 (.tmp 13), none, []⟩,
    ⟨some 15, .move (.tmp 0), none, []⟩,
    ⟨some 16, .move (.tmp 3), none, []⟩,
    ⟨some 17, .indexAddr 28 (.tmp 15) (.tmp 16), none, []⟩,
    ⟨some 18, .load 25 (.tmp 17), none, []⟩,
    ⟨some 19, .call { callee := .value (.func 11), args := #[(.tmp 14), (.tmp 18)], argTypes := #[25, 25] }, none, []⟩,
    ⟨some 20, .binOp .geq 3 (.tmp 19) (.const (.int .i64 0)) 3, none, []⟩]) (.cond (.tmp 20) (.seq (.sts [
    ⟨some 2, .assign (.const (.bool false)), none, []⟩]) (.ret)) (.skip)))) d13S0
def d13L0 : Cd :=
  .seq (.seq (.sts [
    ⟨some 4, .move (.tmp 3), none, []⟩,
    ⟨some 5, .move (.tmp 0), none, []⟩,
    ⟨some 6, .call { callee := .builtin .len, args := #[(.tmp 5)], argTypes := #[28] }, none, []⟩,
    ⟨some 7, .binOp .lss 3 (.tmp 4) (.tmp 6) 3, none, []⟩]) (.cond (.tmp 7) (.skip) (.exit 0))) d13S1
def d13S2 : Cd :=
  .seq (.sts [
    ⟨some 2, .assign (.const (.bool true)), none, []⟩]) (.ret)
def d13 : Cd :=
  .seq (.sts [
    ⟨some 2, .assign (.const (.bool false)), none, []⟩]) (.seq (.seq (.sts [
    ⟨some 3, .assign (.const (.int .i64 1)), none, []⟩]) (.block 0 (.loop d13L0))) d13S2)
theorem cd13 : (Try.f13.body.bind (compile Try.prog)) = some d13 := by kernel_rfl
theorem go13 {T : Table} (hT : T 13 = none) {args : List AV} {K : Kont} {σ : Store} (hl : args.length ≤ 21) (h : wpD Try.prog (acall Try.prog T) 21 d13 (retD Try.prog [.tmp 2] K) (env0 args) σ) : acall Try.prog T 13 args K σ :=
  acall_of hT (fn := Try.f13) (by kernel_rfl) cd13 (m := 21) rfl (rs := [.tmp 2]) rfl hl h
/- 14 flint/fact.Merge -/
def d14S0 : Cd :=
  .seq (.block 3 (.seq (.sts [
    ⟨some 22, .indexAddr 28 (.tmp 18) (.tmp 20), none, []⟩,
    ⟨some 23, .load 25 (.tmp 22), none, []⟩,
    ⟨some 8, .alloc 25, none, []⟩,
    ⟨none, .store 25 (.tmp 8) (.tmp 23), none, []⟩]) (.sts [
    ⟨some 24, .move (.tmp 4), none, []⟩,
    ⟨some 25, .load 25 (.tmp 8), none, []⟩,
    ⟨some 26, .call { callee := .value (.func 49), args := #[(.tmp 25)], argTypes := #[25] }, none, []⟩,
    ⟨some 27, .buildSlice 28 1 #[(0, (.tmp 26))], none, []⟩,
    ⟨some 28, .call { callee := .builtin .append, args := #[(.tmp 24), (.tmp 27)], argTypes := #[28, 28] }, none, []⟩,
    ⟨some 4, .assign (.tmp 28), none, []⟩]))) (.sts [
    ⟨some 29, .binOp .add 3 (.tmp 20) (.const (.int .i64 1)) 3, none, []⟩,
    ⟨some 20, .move (.tmp 29), none, []⟩])
def d14L0 : Cd :=
  .seq (.sts [
    ⟨some 21, .binOp .lss 3 (.tmp 20) (.tmp 19) 3, none, []⟩]) (.seq (.cond (.tmp 21) (.skip) (.exit 2)) d14S0)
def d14S1 : Cd :=
  .seq (.sts [
    ⟨some 18, .move (.tmp 6), none, []⟩,
    ⟨some 19, .call { callee := .builtin .len, args := #[(.tmp 18)], argTypes := #[28] }, none, []⟩,
    ⟨some 20, .move (.const (.int .i64 0)), none, []⟩]) (.block 2 (.loop d14L0))
def d14S2 : Cd :=
  .sts [
    ⟨some 30, .binOp .add 3 (.tmp 11) (.const (.int .i64 1)) 3, none, []⟩,
    ⟨some 11, .move (.tmp 30), none, []⟩]
def d14S3 : Cd :=
  .seq (.block 1 (.seq (.sts [
    ⟨some 13, .indexAddr 26 (.tmp 9) (.tmp 11), none, []⟩,
    ⟨some 14, .load 28 (.tmp 13), none, []⟩,
    ⟨some 6, .assign (.tmp 14), none, []⟩]) (.seq (.seq (.sts [
    ⟨some 15, .move (.tmp 6), none, []⟩,
    ⟨some 16, .call { callee := .value (.func 12), args := #[(.tmp 15)], argTypes := #[28] }, none, []⟩,
    ⟨some 17, .unOp .not 4 (.tmp 16), none, []⟩]) (.cond (.tmp 17) (.seq (.sts [
    ⟨some 2, .assign (.const (.slice none 0 0)), none, []⟩,
    ⟨some 3, .assign (.const (.int .i64 25)), none, []⟩]) (.ret)) (.skip))) d14S1))) d14S2
def d14L1 : Cd :=
  .seq (.sts [
    ⟨some 12, .binOp .lss 3 (.tmp 11) (.tmp 10) 3, none, []⟩]) (.seq (.cond (.tmp 12) (.skip) (.exit 0)) d14S3)
def d14S4 : Cd :=
  .seq (.sts [
    ⟨some 31, .move (.tmp 4), none, []⟩,
    ⟨some 32, .call { callee := .value (.func 50), args := #[(.tmp 31), (.func 10)], argTypes := #[28, 30] }, none, []⟩]) (.seq (.sts [
    ⟨some 33, .move (.tmp 4), none, []⟩,
    ⟨some 34, .call { callee := .value (.func 51), args := #[(.tmp 33), (.func 52)], argTypes := #[28, 110] }, none, []⟩,
    ⟨some 2, .assign (.tmp 34), none, []⟩,
    ⟨some 3, .assign (.const (.int .i64 0)), none, []⟩]) (.ret))
def d14 : Cd :=
  .seq (.sts [
    ⟨some 2, .assign (.const (.slice none 0 0)), none, []⟩,
    ⟨some 3, .assign (.const (.int .i64 0)), none, []⟩]) (.seq (.sts [
    ⟨some 4, .assign (.const (.slice none 0 0)), none, []⟩]) (.seq (.seq (.sts [
    ⟨some 9, .move (.tmp 0), none, []⟩,
    ⟨some 10, .call { callee := .builtin .len, args := #[(.tmp 9)], argTypes := #[26] }, none, []⟩,
    ⟨some 11, .move (.const (.int .i64 0)), none, []⟩]) (.block 0 (.loop d14L1))) d14S4))
theorem cd14 : (Try.f14.body.bind (compile Try.prog)) = some d14 := by kernel_rfl
theorem go14 {T : Table} (hT : T 14 = none) {args : List AV} {K : Kont} {σ : Store} (hl : args.length ≤ 35) (h : wpD Try.prog (acall Try.prog T) 35 d14 (retD Try.prog [.tmp 2, .tmp 3] K) (env0 args) σ) : acall Try.prog T 14 args K σ :=
  acall_of hT (fn := Try.f14) (by kernel_rfl) cd14 (m := 35) rfl (rs := [.tmp 2, .tmp 3]) rfl hl h
/- 15 flint/flintref11.Merge -/
def d15S0 : Cd :=
  .sts [
    ⟨some 11, .move (.tmp 4), none, []⟩,
    ⟨some 12, .binOp .add 3 (.tmp 11) (.const (.int .i64 1)) 3, none, []⟩,
    ⟨some 4, .assign (.tmp 12), none, []⟩]
def d15S1 : Cd :=
  .seq (.block 1 (.seq (.sts [
    ⟨some 13, .move (.tmp 0), none, []⟩,
    ⟨some 14, .move (.tmp 4), none, []⟩,
    ⟨some 15, .indexAddr 26 (.tmp 13) (.tmp 14), none, []⟩,
    ⟨some 16, .load 28 (.tmp 15), none, []⟩,
    ⟨some 17, .call { callee := .value (.func 13), args := #[(.tmp 16)], argTypes := #[28] }, none, []⟩,
    ⟨some 18, .unOp .not 4 (.tmp 17), none, []⟩]) (.cond (.tmp 18) (.seq (.sts [
    ⟨some 2, .assign (.const (.slice none 0 0)), none, []⟩,
    ⟨some 3, .assign (.const (.int .i64 25)), none, []⟩]) (.ret)) (.skip)))) d15S0
def d15L0 : Cd :=
  .seq (.seq (.sts [
    ⟨some 7, .move (.tmp 4), none, []⟩,
    ⟨some 8, .move (.tmp 0), none, []⟩,
    ⟨some 9, .call { callee := .builtin .len, args := #[(.tmp 8)], argTypes := #[26] }, none, []⟩,
    ⟨some 10, .binOp .lss 3 (.tmp 7) (.tmp 9) 3, none, []⟩]) (.cond (.tmp 10) (.skip) (.exit 0))) d15S1
def d15S2 : Cd :=
  .seq (.block 3 (.sts [
    ⟨some 25, .move (.tmp 5), none, []⟩,
    ⟨some 26, .move (.tmp 0), none, []⟩,
    ⟨some 27, .move (.tmp 6), none, []⟩,
    ⟨some 28, .indexAddr 26 (.tmp 26) (.tmp 27), none, []⟩,
    ⟨some 29, .load 28 (.tmp 28), none, []⟩,
    ⟨some 30, .call { callee := .value (.func 53), args := #[(.tmp 25), (.tmp 29)], argTypes := #[28, 28] }, none, []⟩,
    ⟨some 5, .assign (.tmp 30), none, []⟩])) (.sts [
    ⟨some 23, .move (.tmp 6), none, []⟩,
    ⟨some 24, .binOp .add 3 (.tmp 23) (.const (.int .i64 1)) 3, none, []⟩,
    ⟨some 6, .assign (.tmp 24), none, []⟩])
def d15L1 : Cd :=
  .seq (.seq (.sts [
    ⟨some 19, .move (.tmp 6), none, []⟩,
    ⟨some 20, .move (.tmp 0), none, []⟩,
    ⟨some 21, .call { callee := .builtin .len, args := #[(.tmp 20)], argTypes := #[26] }, none, []⟩,
    ⟨some 22, .binOp .lss 3 (.tmp 19) (.tmp 21) 3, none, []⟩]) (.cond (.tmp 22) (.skip) (.exit 2))) d15S2
def d15S3 : Cd :=
  .seq (.sts [
    ⟨some 31, .move (.tmp 5), none, []⟩,
    ⟨some 2, .assign (.tmp 31), none, []⟩,
    ⟨some 3, .assign (.const (.int .i64 0)), none, []⟩]) (.ret)
def d15S4 : Cd :=
  .seq (.sts [
    ⟨some 5, .assign (.const (.slice none 0 0)), none, []⟩]) (.seq (.seq (.sts [
    ⟨some 6, .assign (.const (.int .i64 0)), none, []⟩]) (.block 2 (.loop d15L1))) d15S3)
def d15 : Cd :=
  .seq (.sts [
    ⟨some 2, .assign (.const (.slice none 0 0)), none, []⟩,
    ⟨some 3, .assign (.const (.int .i64 0)), none, []⟩]) (.seq (.seq (.sts [
    ⟨some 4, .assign (.const (.int .i64 0)), none, []⟩]) (.block 0 (.loop d15L0))) d15S4)
theorem cd15 : (Try.f15.body.bind (compile Try.prog)) = some d15 := by kernel_rfl
theorem go15 {T : Table} (hT : T 15 = none) {args : List AV} {K : Kont} {σ : Store} (hl : args.length ≤ 32) (h : wpD Try.prog (acall Try.prog T) 32 d15 (retD Try.prog [.tmp 2, .tmp 3] K) (env0 args) σ) : acall Try.prog T 15 args K σ :=
  acall_of hT (fn := Try.f15) (by kernel_rfl) cd15 (m := 32) rfl (rs := [.tmp 2, .tmp 3]) rfl hl h
/- 16 flint/flintlaw11.SameRows -/
def d16S0 : Cd :=
  .sts [
    ⟨some 15, .move (.tmp 5), none, []⟩,
    ⟨some 16, .binOp .add 3 (.tmp 15) (.const (.int .i64 1)) 3, none, []⟩,
    ⟨some 5, .assign (.tmp 16), none, []⟩]
def d16S1 : Cd :=
  .seq (.block 1 (.seq (.sts [
    ⟨some 17, .move (.tmp 0), none, []⟩,
    ⟨some 18, .move (.tmp 5), none, []⟩,
    ⟨some 19, .indexAddr 28 (.tmp 17) (.tmp 18), none, []⟩,
    ⟨some 20, .load 25 (.tmp 19), none, []⟩,
    ⟨some 21, .move (.tmp 1), none, []⟩,
    ⟨some 22, .move (.tmp 5), none, []⟩,
    ⟨some 23, .indexAddr 28 (.tmp 21) (.tmp 22), none, []⟩,
    ⟨some 24, .load 25 (.tmp 23), none, []⟩,
    ⟨some 25, .call { callee := .value (.func 54), args := #[(.tmp 20), (.tmp 24)], argTypes := #[25, 25] }, none, []⟩,
    ⟨some 26, .unOp .not 4 (.tmp 25), none, []⟩]) (.cond (.tmp 26) (.seq (.sts [
    ⟨some 4, .assign (.const (.bool false)), none, []⟩]) (.ret)) (.skip)))) d16S0
def d16L0 : Cd :=
  .seq (.seq (.sts [
    ⟨some 11, .move (.tmp 5), none, []⟩,
    ⟨some 12, .move (.tmp 0), none, []⟩,
    ⟨some 13, .call { callee := .builtin .len, args := #[(.tmp 12)], argTypes := #[28] }, none, []⟩,
    ⟨some 14, .binOp .lss 3 (.tmp 11) (.tmp 13) 3, none, []⟩]) (.cond (.tmp 14) (.skip) (.exit 0))) d16S1
def d16S2 : Cd :=
  .seq (.sts [
    ⟨some 4, .assign (.const (.bool true)), none, []⟩]) (.ret)
def d16S3 : Cd :=
  .seq (.seq (.sts [
    ⟨some 5, .assign (.const (.int .i64 0)), none, []⟩]) (.block 0 (.loop d16L0))) d16S2
def d16 : Cd :=
  .seq (.sts [
    ⟨some 4, .assign (.const (.bool false)), none, []⟩]) (.seq (.seq (.sts [
    ⟨some 6, .move (.tmp 0), none, []⟩,
    ⟨some 7, .call { callee := .builtin .len, args := #[(.tmp 6)], argTypes := #[28] }, none, []⟩,
    ⟨some 8, .move (.tmp 1), none, []⟩,
    ⟨some 9, .call { callee := .builtin .len, args := #[(.tmp 8)], argTypes := #[28] }, none, []⟩,
    ⟨some 10, .binOp .neq 3 (.tmp 7) (.tmp 9) 3, none, []⟩]) (.cond (.tmp 10) (.seq (.sts [
    ⟨some 4, .assign (.const (.bool false)), none, []⟩]) (.ret)) (.skip))) d16S3)
theorem cd16 : (Try.f16.body.bind (compile Try.prog)) = some d16 := by kernel_rfl
theorem go16 {T : Table} (hT : T 16 = none) {args : List AV} {K : Kont} {σ : Store} (hl : args.length ≤ 27) (h : wpD Try.prog (acall Try.prog T) 27 d16 (retD Try.prog [.tmp 4] K) (env0 args) σ) : acall Try.prog T 16 args K σ :=
  acall_of hT (fn := Try.f16) (by kernel_rfl) cd16 (m := 27) rfl (rs := [.tmp 4]) rfl hl h
/- 46 cmp.Or[int] -/
def d46S0 : Cd :=
  .sts [
    ⟨some 16, .binOp .add 3 (.tmp 8) (.const (.int .i64 1)) 3, none, []⟩,
    ⟨some 8, .move (.tmp 16), none, []⟩]
def d46S1 : Cd :=
  .seq (.block 1 (.seq (.sts [
    ⟨some 10, .indexAddr 175 (.tmp 6) (.tmp 8), none, []⟩,
    ⟨some 11, .load 3 (.tmp 10), none, []⟩,
    ⟨some 5, .assign (.tmp 11), none, []⟩]) (.seq (.sts [
    ⟨some 12, .move (.tmp 5), none, []⟩,
    ⟨some 13, .move (.tmp 3), none, []⟩,
    ⟨some 14, .binOp .neq 3 (.tmp 12) (.tmp 13) 3, none, []⟩]) (.cond (.tmp 14) (.seq (.sts [
    ⟨some 15, .move (.tmp 5), none, []⟩,
    ⟨some 2, .assign (.tmp 15), none, []⟩]) (.ret)) (.skip))))) d46S0
def d46L0 : Cd :=
  .seq (.sts [
    ⟨some 9, .binOp .lss 3 (.tmp 8) (.tmp 7) 3, none, []⟩]) (.seq (.cond (.tmp 9) (.skip) (.exit 0)) d46S1)
def d46S2 : Cd :=
  .seq (.sts [
    ⟨some 17, .move (.tmp 3), none, []⟩,
    ⟨some 2, .assign (.tmp 17), none, []⟩]) (.ret)
def d46 : Cd :=
  .seq (.sts [
    ⟨some 2, .assign (.const (.int .i64 0)), none, []⟩]) (.seq (.sts [
    ⟨some 3, .assign (.const (.int .i64 0)), none, []⟩]) (.seq (.seq (.sts [
    ⟨some 6, .move (.tmp 0), none, []⟩,
    ⟨some 7, .call { callee := .builtin .len, args := #[(.tmp 6)], argTypes := #[175] }, none, []⟩,
    ⟨some 8, .move (.const (.int .i64 0)), none, []⟩]) (.block 0 (.loop d46L0))) d46S2))
theorem cd46 : (Try.f46.body.bind (compile Try.prog)) = some d46 := by kernel_rfl
theorem go46 {T : Table} (hT : T 46 = none) {args : List AV} {K : Kont} {σ : Store} (hl : args.length ≤ 18) (h : wpD Try.prog (acall Try.prog T) 18 d46 (retD Try.prog [.tmp 2] K) (env0 args) σ) : acall Try.prog T 46 args K σ :=
  acall_of hT (fn := Try.f46) (by kernel_rfl) cd46 (m := 18) rfl (rs := [.tmp 2]) rfl hl h
/- 47 cmp.Compare[string] -/
def d47S0 : Cd :=
  .seq (.sts [
    ⟨some 4, .assign (.const (.int .i64 (-1))), none, []⟩]) (.ret)
def d47S1 : Cd :=
  .seq (.sts [
    ⟨some 4, .assign (.const (.int .i64 0)), none, []⟩]) (.ret)
def d47S2 : Cd :=
  .seq (.seq (.sts [
    ⟨some 17, .move (.tmp 0), none, []⟩,
    ⟨some 18, .move (.tmp 1), none, []⟩,
    ⟨some 19, .binOp .gtr 9 (.tmp 17) (.tmp 18) 9, none, []⟩]) (.cond (.tmp 19) (.seq (.sts [
    ⟨some 4, .assign (.const (.int .i64 1)), none, []⟩]) (.ret)) (.skip))) d47S1
def d47S3 : Cd :=
  .seq (.seq (.sts [
    ⟨some 14, .move (.tmp 0), none, []⟩,
    ⟨some 15, .move (.tmp 1), none, []⟩,
    ⟨some 16, .binOp .lss 9 (.tmp 14) (.tmp 15) 9, none, []⟩]) (.cond (.tmp 16) (.seq (.sts [
    ⟨some 4, .assign (.const (.int .i64 (-1))), none, []⟩]) (.ret)) (.skip))) d47S2
def d47S4 : Cd :=
  .seq (.seq (.sts [
    ⟨some 13, .move (.tmp 6), none, []⟩]) (.cond (.tmp 13) (.seq (.sts [
    ⟨some 4, .assign (.const (.int .i64 1)), none, []⟩]) (.ret)) (.skip))) d47S3
def d47 : Cd :=
  .seq (.sts [
    ⟨some 4, .assign (.const (.int .i64 0)), none, []⟩]) (.seq (.sts [
    ⟨some 7, .move (.tmp 0), none, []⟩,
    ⟨some 8, .call { callee := .value (.func 89), args := #[(.tmp 7)], argTypes := #[9] }, none, []⟩,
    ⟨some 5, .assign (.tmp 8), none, []⟩]) (.seq (.sts [
    ⟨some 9, .move (.tmp 1), none, []⟩,
    ⟨some 10, .call { callee := .value (.func 89), args := #[(.tmp 9)], argTypes := #[9] }, none, []⟩,
    ⟨some 6, .assign (.tmp 10), none, []⟩]) (.seq (.seq (.sts [
    ⟨some 11, .move (.tmp 5), none, []⟩]) (.cond (.tmp 11) (.seq (.seq (.sts [
    ⟨some 12, .move (.tmp 6), none, []⟩]) (.cond (.tmp 12) (.seq (.sts [
    ⟨some 4, .assign (.const (.int .i64 0)), none, []⟩]) (.ret)) (.skip))) d47S0) (.skip))) d47S4)))
theorem cd47 : (Try.f47.body.bind (compile Try.prog)) = some d47 := by kernel_rfl
theorem go47 {T : Table} (hT : T 47 = none) {args : List AV} {K : Kont} {σ : Store} (hl : args.length ≤ 20) (h : wpD Try.prog (acall Try.prog T) 20 d47 (retD Try.prog [.tmp 4] K) (env0 args) σ) : acall Try.prog T 47 args K σ :=
  acall_of hT (fn := Try.f47) (by kernel_rfl) cd47 (m := 20) rfl (rs := [.tmp 4]) rfl hl h
/- 48 cmp.Compare[uint64] -/
def d48S0 : Cd :=
  .seq (.sts [
    ⟨some 4, .assign (.const (.int .i64 (-1))), none, []⟩]) (.ret)
def d48S1 : Cd :=
  .seq (.sts [
    ⟨some 4, .assign (.const (.int .i64 0)), none, []⟩]) (.ret)
def d48S2 : Cd :=
  .seq (.seq (.sts [
    ⟨some 17, .move (.tmp 0), none, []⟩,
    ⟨some 18, .move (.tmp 1), none, []⟩,
    ⟨some 19, .binOp .gtr 22 (.tmp 17) (.tmp 18) 22, none, []⟩]) (.cond (.tmp 19) (.seq (.sts [
    ⟨some 4, .assign (.const (.int .i64 1)), none, []⟩]) (.ret)) (.skip))) d48S1
def d48S3 : Cd :=
  .seq (.seq (.sts [
    ⟨some 14, .move (.tmp 0), none, []⟩,
    ⟨some 15, .move (.tmp 1), none, []⟩,
    ⟨some 16, .binOp .lss 22 (.tmp 14) (.tmp 15) 22, none, []⟩]) (.cond (.tmp 16) (.seq (.sts [
    ⟨some 4, .assign (.const (.int .i64 (-1))), none, []⟩]) (.ret)) (.skip))) d48S2
def d48S4 : Cd :=
  .seq (.seq (.sts [
    ⟨some 13, .move (.tmp 6), none, []⟩]) (.cond (.tmp 13) (.seq (.sts [
    ⟨some 4, .assign (.const (.int .i64 1)), none, []⟩]) (.ret)) (.skip))) d48S3
def d48 : Cd :=
  .seq (.sts [
    ⟨some 4, .assign (.const (.int .i64 0)), none, []⟩]) (.seq (.sts [
    ⟨some 7, .move (.tmp 0), none, []⟩,
    ⟨some 8, .call { callee := .value (.func 90), args := #[(.tmp 7)], argTypes := #[22] }, none, []⟩,
    ⟨some 5, .assign (.tmp 8), none, []⟩]) (.seq (.sts [
    ⟨some 9, .move (.tmp 1), none, []⟩,
    ⟨some 10, .call { callee := .value (.func 90), args := #[(.tmp 9)], argTypes := #[22] }, none, []⟩,
    ⟨some 6, .assign (.tmp 10), none, []⟩]) (.seq (.seq (.sts [
    ⟨some 11, .move (.tmp 5), none, []⟩]) (.cond (.tmp 11) (.seq (.seq (.sts [
    ⟨some 12, .move (.tmp 6), none, []⟩]) (.cond (.tmp 12) (.seq (.sts [
    ⟨some 4, .assign (.const (.int .i64 0)), none, []⟩]) (.ret)) (.skip))) d48S0) (.skip))) d48S4)))
theorem cd48 : (Try.f48.body.bind (compile Try.prog)) = some d48 := by kernel_rfl
theorem go48 {T : Table} (hT : T 48 = none) {args : List AV} {K : Kont} {σ : Store} (hl : args.length ≤ 20) (h : wpD Try.prog (acall Try.prog T) 20 d48 (retD Try.prog [.tmp 4] K) (env0 args) σ) : acall Try.prog T 48 args K σ :=
  acall_of hT (fn := Try.f48) (by kernel_rfl) cd48 (m := 20) rfl (rs := [.tmp 4]) rfl hl h
/- 49 flint/fact.apart -/
def d49 : Cd :=
  .seq (.sts [
    ⟨some 1, .box 25 (.tmp 0), none, []⟩,
    ⟨some 2, .alloc 25, none, []⟩]) (.seq (.sts [
    ⟨some 3, .fieldAddr 25 (.tmp 1) 2, none, []⟩,
    ⟨some 4, .load 23 (.tmp 3), none, []⟩,
    ⟨some 5, .call { callee := .value (.func 91), args := #[(.tmp 4)], argTypes := #[23] }, none, []⟩,
    ⟨some 6, .fieldAddr 25 (.tmp 1) 2, none, []⟩,
    ⟨none, .store 23 (.tmp 6) (.tmp 5), none, []⟩]) (.seq (.sts [
    ⟨some 7, .load 25 (.tmp 1), none, []⟩,
    ⟨none, .store 25 (.tmp 2) (.tmp 7), none, []⟩]) (.ret)))
theorem cd49 : (Try.f49.body.bind (compile Try.prog)) = some d49 := by kernel_rfl
theorem go49 {T : Table} (hT : T 49 = none) {args : List AV} {K : Kont} {σ : Store} (hl : args.length ≤ 8) (h : wpD Try.prog (acall Try.prog T) 8 d49 (retD Try.prog [.cell 2 25] K) (env0 args) σ) : acall Try.prog T 49 args K σ :=
  acall_of hT (fn := Try.f49) (by kernel_rfl) cd49 (m := 8) rfl (rs := [.cell 2 25]) rfl hl h
/- 50 slices.SortStableFunc[[]flint/api.Fact,flint/api.Fact] -/
def d50 : Cd :=
  .sts [
    ⟨some 4, .move (.tmp 0), none, []⟩,
    ⟨some 5, .move (.tmp 0), none, []⟩,
    ⟨some 6, .call { callee := .builtin .len, args := #[(.tmp 5)], argTypes := #[28] }, none, []⟩,
    ⟨some 7, .move (.tmp 1), none, []⟩,
    ⟨some 8, .call { callee := .value (.func 92), args := #[(.tmp 4), (.tmp 6), (.tmp 7)], argTypes := #[28, 3, 30] }, none, []⟩]
theorem cd50 : (Try.f50.body.bind (compile Try.prog)) = some d50 := by kernel_rfl
theorem go50 {T : Table} (hT : T 50 = none) {args : List AV} {K : Kont} {σ : Store} (hl : args.length ≤ 9) (h : wpD Try.prog (acall Try.prog T) 9 d50 (retD Try.prog [] K) (env0 args) σ) : acall Try.prog T 50 args K σ :=
  acall_of hT (fn := Try.f50) (by kernel_rfl) cd50 (m := 9) rfl (rs := []) rfl hl h
/- 51 slices.CompactFunc[[]flint/api.Fact,flint/api.Fact] -/
def d51S0 : Cd :=
  .sts [
    ⟨some 36, .move (.tmp 7), none, []⟩,
    ⟨some 37, .binOp .add 3 (.tmp 36) (.const (.int .i64 1)) 3, none, []⟩,
    ⟨some 7, .assign (.tmp 37), none, []⟩]
def d51S1 : Cd :=
  .seq (.block 3 (.seq (.sts [
    ⟨some 38, .move (.tmp 1), none, []⟩,
    ⟨some 39, .move (.tmp 6), none, []⟩,
    ⟨some 40, .move (.tmp 7), none, []⟩,
    ⟨some 41, .indexAddr 28 (.tmp 39) (.tmp 40), none, []⟩,
    ⟨some 42, .load 25 (.tmp 41), none, []⟩,
    ⟨some 43, .move (.tmp 6), none, []⟩,
    ⟨some 44, .move (.tmp 7), none, []⟩,
    ⟨some 45, .binOp .sub 3 (.tmp 44) (.const (.int .i64 1)) 3, none, []⟩,
    ⟨some 46, .indexAddr 28 (.tmp 43) (.tmp 45), none, []⟩,
    ⟨some 47, .load 25 (.tmp 46), none, []⟩,
    ⟨some 48, .call { callee := .value (.tmp 38), args := #[(.tmp 42), (.tmp 47)], argTypes := #[25, 25] }, none, []⟩,
    ⟨some 49, .unOp .not 4 (.tmp 48), none, []⟩]) (.cond (.tmp 49) (.seq (.sts [
    ⟨some 50, .move (.tmp 0), none, []⟩,
    ⟨some 51, .move (.tmp 5), none, []⟩,
    ⟨some 52, .move (.tmp 6), none, []⟩,
    ⟨some 53, .move (.tmp 7), none, []⟩,
    ⟨some 54, .indexAddr 28 (.tmp 52) (.tmp 53), none, []⟩,
    ⟨some 55, .load 25 (.tmp 54), none, []⟩,
    ⟨some 56, .indexAddr 28 (.tmp 50) (.tmp 51), none, []⟩,
    ⟨none, .store 25 (.tmp 56) (.tmp 55), none, []⟩]) (.sts [
    ⟨some 57, .move (.tmp 5), none, []⟩,
    ⟨some 58, .binOp .add 3 (.tmp 57) (.const (.int .i64 1)) 3, none, []⟩,
    ⟨some 5, .assign (.tmp 58), none, []⟩])) (.skip)))) d51S0
def d51L0 : Cd :=
  .seq (.seq (.sts [
    ⟨some 32, .move (.tmp 7), none, []⟩,
    ⟨some 33, .move (.tmp 6), none, []⟩,
    ⟨some 34, .call { callee := .builtin .len, args := #[(.tmp 33)], argTypes := #[28] }, none, []⟩,
    ⟨some 35, .binOp .lss 3 (.tmp 32) (.tmp 34) 3, none, []⟩]) (.cond (.tmp 35) (.skip) (.exit 2))) d51S1
def d51S2 : Cd :=
  .seq (.sts [
    ⟨some 59, .move (.tmp 0), none, []⟩,
    ⟨some 60, .move (.tmp 5), none, []⟩,
    ⟨some 61, .slice 28 (.tmp 59) (some (.tmp 60)) none none, none, []⟩,
    ⟨none, .call { callee := .builtin .clear, args := #[(.tmp 61)], argTypes := #[28] }, none, []⟩]) (.seq (.sts [
    ⟨some 62, .move (.tmp 0), none, []⟩,
    ⟨some 63, .move (.tmp 5), none, []⟩,
    ⟨some 64, .slice 28 (.tmp 62) none (some (.tmp 63)) none, none, []⟩,
    ⟨some 4, .assign (.tmp 64), none, []⟩]) (.ret))
def d51S3 : Cd :=
  .sts [
    ⟨some 16, .move (.tmp 5), none, []⟩,
    ⟨some 17, .binOp .add 3 (.tmp 16) (.const (.int .i64 1)) 3, none, []⟩,
    ⟨some 5, .assign (.tmp 17), none, []⟩]
def d51S4 : Cd :=
  .seq (.block 1 (.seq (.sts [
    ⟨some 18, .move (.tmp 1), none, []⟩,
    ⟨some 19, .move (.tmp 0), none, []⟩,
    ⟨some 20, .move (.tmp 5), none, []⟩,
    ⟨some 21, .indexAddr 28 (.tmp 19) (.tmp 20), none, []⟩,
    ⟨some 22, .load 25 (.tmp 21), none, []⟩,
    ⟨some 23, .move (.tmp 0), none, []⟩,
    ⟨some 24, .move (.tmp 5), none, []⟩,
    ⟨some 25, .binOp .sub 3 (.tmp 24) (.const (.int .i64 1)) 3, none, []⟩,
    ⟨some 26, .indexAddr 28 (.tmp 23) (.tmp 25), none, []⟩,
    ⟨some 27, .load 25 (.tmp 26), none, []⟩,
    ⟨some 28, .call { callee := .value (.tmp 18), args := #[(.tmp 22), (.tmp 27)], argTypes := #[25, 25] }, none, []⟩]) (.cond (.tmp 28) (.seq (.sts [
    ⟨some 29, .move (.tmp 0), none, []⟩,
    ⟨some 30, .move (.tmp 5), none, []⟩,
    ⟨some 31, .slice 28 (.tmp 29) (some (.tmp 30)) none none, none, []⟩,
    ⟨some 6, .assign (.tmp 31), none, []⟩]) (.seq (.seq (.sts [
    ⟨some 7, .assign (.const (.int .i64 1)), none, []⟩]) (.block 2 (.loop d51L0))) d51S2)) (.skip)))) d51S3
def d51L1 : Cd :=
  .seq (.seq (.sts [
    ⟨some 12, .move (.tmp 5), none, []⟩,
    ⟨some 13, .move (.tmp 0), none, []⟩,
    ⟨some 14, .call { callee := .builtin .len, args := #[(.tmp 13)], argTypes := #[28] }, none, []⟩,
    ⟨some 15, .binOp .lss 3 (.tmp 12) (.tmp 14) 3, none, []⟩]) (.cond (.tmp 15) (.skip) (.exit 0))) d51S4
def d51S5 : Cd :=
  .seq (.sts [
    ⟨some 65, .move (.tmp 0), none, []⟩,
    ⟨some 4, .assign (.tmp 65), none, []⟩]) (.ret)
def d51S6 : Cd :=
  .seq (.seq (.sts [
    ⟨some 5, .assign (.const (.int .i64 1)), none, []⟩]) (.block 0 (.loop d51L1))) d51S5
def d51 : Cd :=
  .seq (.sts [
    ⟨some 4, .assign (.const (.slice none 0 0)), none, []⟩]) (.seq (.seq (.sts [
    ⟨some 8, .move (.tmp 0), none, []⟩,
    ⟨some 9, .call { callee := .builtin .len, args := #[(.tmp 8)], argTypes := #[28] }, none, []⟩,
    ⟨some 10, .binOp .lss 3 (.tmp 9) (.const (.int .i64 2)) 3, none, []⟩]) (.cond (.tmp 10) (.seq (.sts [
    ⟨some 11, .move (.tmp 0), none, []⟩,
    ⟨some 4, .assign (.tmp 11), none, []⟩]) (.ret)) (.skip))) d51S6)
theorem cd51 : (Try.f51.body.bind (compile Try.prog)) = some d51 := by kernel_rfl
theorem go51 {T : Table} (hT : T 51 = none) {args : List AV} {K : Kont} {σ : Store} (hl : args.length ≤ 66) (h : wpD Try.prog (acall Try.prog T) 66 d51 (retD Try.prog [.tmp 4] K) (env0 args) σ) : acall Try.prog T 51 args K σ :=
  acall_of hT (fn := Try.f51) (by kernel_rfl) cd51 (m := 66) rfl (rs := [.tmp 4]) rfl hl h
/- 52 flint/fact.Merge$1 -/
def d52 : Cd :=
  .seq (.sts [
    ⟨some 2, .box 25 (.tmp 0), none, []⟩,
    ⟨some 3, .box 25 (.tmp 1), none, []⟩,
    ⟨some 4, .assign (.const (.bool false)), none, []⟩]) (.seq (.sts [
    ⟨some 5, .load 25 (.tmp 2), none, []⟩,
    ⟨some 6, .load 25 (.tmp 3), none, []⟩,
    ⟨some 7, .call { callee := .value (.func 10), args := #[(.tmp 5), (.tmp 6)], argTypes := #[25, 25] }, none, []⟩,
    ⟨some 8, .binOp .eql 3 (.tmp 7) (.const (.int .i64 0)) 3, none, []⟩,
    ⟨some 4, .assign (.tmp 8), none, []⟩]) (.ret))
theorem cd52 : (Try.f52.body.bind (compile Try.prog)) = some d52 := by kernel_rfl
theorem go52 {T : Table} (hT : T 52 = none) {args : List AV} {K : Kont} {σ : Store} (hl : args.length ≤ 9) (h : wpD Try.prog (acall Try.prog T) 9 d52 (retD Try.prog [.tmp 4] K) (env0 args) σ) : acall Try.prog T 52 args K σ :=
  acall_of hT (fn := Try.f52) (by kernel_rfl) cd52 (m := 9) rfl (rs := [.tmp 4]) rfl hl h
/- 53 flint/flintref11.two -/
def d53S0 : Cd :=
  .seq (.sts [
    ⟨some 36, .move (.tmp 8), none, []⟩,
    ⟨some 37, .binOp .leq 3 (.tmp 36) (.const (.int .i64 0)) 3, none, []⟩]) (.cond (.tmp 37) (.seq (.sts [
    ⟨some 38, .move (.tmp 5), none, []⟩,
    ⟨some 39, .move (.tmp 0), none, []⟩,
    ⟨some 40, .move (.tmp 6), none, []⟩,
    ⟨some 41, .indexAddr 28 (.tmp 39) (.tmp 40), none, []⟩,
    ⟨some 42, .load 25 (.tmp 41), none, []⟩,
    ⟨some 43, .buildSlice 28 1 #[(0, (.tmp 42))], none, []⟩,
    ⟨some 44, .call { callee := .builtin .append, args := #[(.tmp 38), (.tmp 43)], argTypes := #[28, 28] }, none, []⟩,
    ⟨some 5, .assign (.tmp 44), none, []⟩]) (.seq (.sts [
    ⟨some 45, .move (.tmp 6), none, []⟩,
    ⟨some 46, .binOp .add 3 (.tmp 45) (.const (.int .i64 1)) 3, none, []⟩,
    ⟨some 6, .assign (.tmp 46), none, []⟩]) (.seq (.sts [
    ⟨some 47, .move (.tmp 8), none, []⟩,
    ⟨some 48, .binOp .eql 3 (.tmp 47) (.const (.int .i64 0)) 3, none, []⟩]) (.cond (.tmp 48) (.sts [
    ⟨some 49, .move (.tmp 7), none, []⟩,
    ⟨some 50, .binOp .add 3 (.tmp 49) (.const (.int .i64 1)) 3, none, []⟩,
    ⟨some 7, .assign (.tmp 50), none, []⟩]) (.skip))))) (.seq (.sts [
    ⟨some 51, .move (.tmp 5), none, []⟩,
    ⟨some 52, .move (.tmp 1), none, []⟩,
    ⟨some 53, .move (.tmp 7), none, []⟩,
    ⟨some 54, .indexAddr 28 (.tmp 52) (.tmp 53), none, []⟩,
    ⟨some 55, .load 25 (.tmp 54), none, []⟩,
    ⟨some 56, .buildSlice 28 1 #[(0, (.tmp 55))], none, []⟩,
    ⟨some 57, .call { callee := .builtin .append, args := #[(.tmp 51), (.tmp 56)], argTypes := #[28, 28] }, none, []⟩,
    ⟨some 5, .assign (.tmp 57), none, []⟩]) (.sts [
    ⟨some 58, .move (.tmp 7), none, []⟩,
    ⟨some 59, .binOp .add 3 (.tmp 58) (.const (.int .i64 1)) 3, none, []⟩,
    ⟨some 7, .assign (.tmp 59), none, []⟩])))
def d53S1 : Cd :=
  .block 1 (.seq (.sts [
    ⟨some 8, .assign (.const (.int .i64 0)), none, []⟩]) (.seq (.seq (.sts [
    ⟨some 19, .move (.tmp 6), none, []⟩,
    ⟨some 20, .move (.tmp 0), none, []⟩,
    ⟨some 21, .call { callee := .builtin .len, args := #[(.tmp 20)], argTypes := #[28] }, none, []⟩,
    ⟨some 22, .binOp .eql 3 (.tmp 19) (.tmp 21) 3, none, []⟩]) (.cond (.tmp 22) (.sts [
    ⟨some 8, .assign (.const (.int .i64 1)), none, []⟩]) (.seq (.sts [
    ⟨some 23, .move (.tmp 7), none, []⟩,
    ⟨some 24, .move (.tmp 1), none, []⟩,
    ⟨some 25, .call { callee := .builtin .len, args := #[(.tmp 24)], argTypes := #[28] }, none, []⟩,
    ⟨some 26, .binOp .eql 3 (.tmp 23) (.tmp 25) 3, none, []⟩]) (.cond (.tmp 26) (.sts [
    ⟨some 8, .assign (.const (.int .i64 (-1))), none, []⟩]) (.sts [
    ⟨some 27, .move (.tmp 0), none, []⟩,
    ⟨some 28, .move (.tmp 6), none, []⟩,
    ⟨some 29, .indexAddr 28 (.tmp 27) (.tmp 28), none, []⟩,
    ⟨some 30, .load 25 (.tmp 29), none, []⟩,
    ⟨some 31, .move (.tmp 1), none, []⟩,
    ⟨some 32, .move (.tmp 7), none, []⟩,
    ⟨some 33, .indexAddr 28 (.tmp 31) (.tmp 32), none, []⟩,
    ⟨some 34, .load 25 (.tmp 33), none, []⟩,
    ⟨some 35, .call { callee := .value (.func 11), args := #[(.tmp 30), (.tmp 34)], argTypes := #[25, 25] }, none, []⟩,
    ⟨some 8, .assign (.tmp 35), none, []⟩]))))) d53S0))
def d53L0 : Cd :=
  .seq (.seq (.sts [
    ⟨some 9, .move (.tmp 6), none, []⟩,
    ⟨some 10, .move (.tmp 0), none, []⟩,
    ⟨some 11, .call { callee := .builtin .len, args := #[(.tmp 10)], argTypes := #[28] }, none, []⟩,
    ⟨some 12, .binOp .lss 3 (.tmp 9) (.tmp 11) 3, none, []⟩,
    ⟨some 13, .move (.tmp 12), none, []⟩,
    ⟨some 14, .move (.tmp 7), some (some 13, false), []⟩,
    ⟨some 15, .move (.tmp 1), some (some 13, false), []⟩,
    ⟨some 16, .call { callee := .builtin .len, args := #[(.tmp 15)], argTypes := #[28] }, some (some 13, false), []⟩,
    ⟨some 17, .binOp .lss 3 (.tmp 14) (.tmp 16) 3, some (some 13, false), []⟩,
    ⟨some 18, .pick (.tmp 13) (.const (.bool true)) (.tmp 17), none, []⟩]) (.cond (.tmp 18) (.skip) (.exit 0))) d53S1
def d53S2 : Cd :=
  .seq (.sts [
    ⟨some 60, .move (.tmp 5), none, []⟩,
    ⟨some 4, .assign (.tmp 60), none, []⟩]) (.ret)
def d53 : Cd :=
  .seq (.sts [
    ⟨some 4, .assign (.const (.slice none 0 0)), none, []⟩]) (.seq (.sts [
    ⟨some 5, .assign (.const (.slice none 0 0)), none, []⟩]) (.seq (.sts [
    ⟨some 6, .assign (.const (.int .i64 0)), none, []⟩]) (.seq (.sts [
    ⟨some 7, .assign (.const (.int .i64 0)), none, []⟩]) (.seq (.block 0 (.loop d53L0)) d53S2))))
theorem cd53 : (Try.f53.body.bind (compile Try.prog)) = some d53 := by kernel_rfl
theorem go53 {T : Table} (hT : T 53 = none) {args : List AV} {K : Kont} {σ : Store} (hl : args.length ≤ 61) (h : wpD Try.prog (acall Try.prog T) 61 d53 (retD Try.prog [.tmp 4] K) (env0 args) σ) : acall Try.prog T 53 args K σ :=
  acall_of hT (fn := Try.f53) (by kernel_rfl) cd53 (m := 61) rfl (rs := [.tmp 4]) rfl hl h
/- 54 flint/flintlaw11.Same -/
def d54 : Cd :=
  .seq (.sts [
    ⟨some 2, .box 25 (.tmp 0), none, []⟩,
    ⟨some 3, .box 25 (.tmp 1), none, []⟩,
    ⟨some 4, .assign (.const (.bool false)), none, []⟩]) (.seq (.sts [
    ⟨some 5, .fieldAddr 25 (.tmp 2) 0, none, []⟩,
    ⟨some 6, .load 9 (.tmp 5), none, []⟩,
    ⟨some 7, .fieldAddr 25 (.tmp 3) 0, none, []⟩,
    ⟨some 8, .load 9 (.tmp 7), none, []⟩,
    ⟨some 9, .binOp .eql 9 (.tmp 6) (.tmp 8) 9, none, []⟩,
    ⟨some 10, .move (.tmp 9), none, []⟩,
    ⟨some 11, .fieldAddr 25 (.tmp 2) 1, some (some 10, true), []⟩,
    ⟨some 12, .load 22 (.tmp 11), some (some 10, true), []⟩,
    ⟨some 13, .fieldAddr 25 (.tmp 3) 1, some (some 10, true), []⟩,
    ⟨some 14, .load 22 (.tmp 13), some (some 10, true), []⟩,
    ⟨some 15, .binOp .eql 22 (.tmp 12) (.tmp 14) 22, some (some 10, true), []⟩,
    ⟨some 16, .pick (.tmp 10) (.tmp 15) (.const (.bool false)), none, []⟩,
    ⟨some 17, .move (.tmp 16), none, []⟩,
    ⟨some 18, .fieldAddr 25 (.tmp 2) 2, some (some 17, true), []⟩,
    ⟨some 19, .load 23 (.tmp 18), some (some 17, true), []⟩,
    ⟨some 20, .convert 23 9 (.tmp 19), some (some 17, true), []⟩,
    ⟨some 21, .fieldAddr 25 (.tmp 3) 2, some (some 17, true), []⟩,
    ⟨some 22, .load 23 (.tmp 21), some (some 17, true), []⟩,
    ⟨some 23, .convert 23 9 (.tmp 22), some (some 17, true), []⟩,
    ⟨some 24, .binOp .eql 9 (.tmp 20) (.tmp 23) 9, some (some 17, true), []⟩,
    ⟨some 25, .pick (.tmp 17) (.tmp 24) (.const (.bool false)), none, []⟩,
    ⟨some 4, .assign (.tmp 25), none, []⟩]) (.ret))
theorem cd54 : (Try.f54.body.bind (compile Try.prog)) = some d54 := by kernel_rfl
theorem go54 {T : Table} (hT : T 54 = none) {args : List AV} {K : Kont} {σ : Store} (hl : args.length ≤ 26) (h : wpD Try.prog (acall Try.prog T) 26 d54 (retD Try.prog [.tmp 4] K) (env0 args) σ) : acall Try.prog T 54 args K σ :=
  acall_of hT (fn := Try.f54) (by kernel_rfl) cd54 (m := 26) rfl (rs := [.tmp 4]) rfl hl h
/- 89 cmp.isNaN[string] -/
def d89 : Cd :=
  .seq (.sts [
    ⟨some 2, .assign (.const (.bool false)), none, []⟩]) (.seq (.sts [
    ⟨some 3, .move (.tmp 0), none, []⟩,
    ⟨some 4, .move (.tmp 0), none, []⟩,
    ⟨some 5, .binOp .neq 9 (.tmp 3) (.tmp 4) 9, none, []⟩,
    ⟨some 2, .assign (.tmp 5), none, []⟩]) (.ret))
theorem cd89 : (Try.f89.body.bind (compile Try.prog)) = some d89 := by kernel_rfl
theorem go89 {T : Table} (hT : T 89 = none) {args : List AV} {K : Kont} {σ : Store} (hl : args.length ≤ 6) (h : wpD Try.prog (acall Try.prog T) 6 d89 (retD Try.prog [.tmp 2] K) (env0 args) σ) : acall Try.prog T 89 args K σ :=
  acall_of hT (fn := Try.f89) (by kernel_rfl) cd89 (m := 6) rfl (rs := [.tmp 2]) rfl hl h
/- 90 cmp.isNaN[uint64] -/
def d90 : Cd :=
  .seq (.sts [
    ⟨some 2, .assign (.const (.bool false)), none, []⟩]) (.seq (.sts [
    ⟨some 3, .move (.tmp 0), none, []⟩,
    ⟨some 4, .move (.tmp 0), none, []⟩,
    ⟨some 5, .binOp .neq 22 (.tmp 3) (.tmp 4) 22, none, []⟩,
    ⟨some 2, .assign (.tmp 5), none, []⟩]) (.ret))
theorem cd90 : (Try.f90.body.bind (compile Try.prog)) = some d90 := by kernel_rfl
theorem go90 {T : Table} (hT : T 90 = none) {args : List AV} {K : Kont} {σ : Store} (hl : args.length ≤ 6) (h : wpD Try.prog (acall Try.prog T) 6 d90 (retD Try.prog [.tmp 2] K) (env0 args) σ) : acall Try.prog T 90 args K σ :=
  acall_of hT (fn := Try.f90) (by kernel_rfl) cd90 (m := 6) rfl (rs := [.tmp 2]) rfl hl h
/- 91 slices.Clone[[]byte,byte] -/
def d91S0 : Cd :=
  .seq (.sts [
    ⟨some 5, .buildSlice 23 0 #[], none, []⟩,
    ⟨some 6, .move (.tmp 0), none, []⟩,
    ⟨some 7, .call { callee := .builtin .append, args := #[(.tmp 5), (.tmp 6)], argTypes := #[23, 23] }, none, []⟩,
    ⟨some 2, .assign (.tmp 7), none, []⟩]) (.ret)
def d91 : Cd :=
  .seq (.sts [
    ⟨some 2, .assign (.const (.slice none 0 0)), none, []⟩]) (.seq (.seq (.sts [
    ⟨some 3, .move (.tmp 0), none, []⟩,
    ⟨some 4, .binOp .eql 23 (.tmp 3) (.const (.slice none 0 0)) 23, none, []⟩]) (.cond (.tmp 4) (.seq (.sts [
    ⟨some 2, .assign (.const (.slice none 0 0)), none, []⟩]) (.ret)) (.skip))) d91S0)
theorem cd91 : (Try.f91.body.bind (compile Try.prog)) = some d91 := by kernel_rfl
theorem go91 {T : Table} (hT : T 91 = none) {args : List AV} {K : Kont} {σ : Store} (hl : args.length ≤ 8) (h : wpD Try.prog (acall Try.prog T) 8 d91 (retD Try.prog [.tmp 2] K) (env0 args) σ) : acall Try.prog T 91 args K σ :=
  acall_of hT (fn := Try.f91) (by kernel_rfl) cd91 (m := 8) rfl (rs := [.tmp 2]) rfl hl h
/- 92 slices.stableCmpFunc[flint/api.Fact] -/
def d92S0 : Cd :=
  .block 1 (.seq (.sts [
    ⟨some 14, .move (.tmp 0), none, []⟩,
    ⟨some 15, .move (.tmp 7), none, []⟩,
    ⟨some 16, .move (.tmp 8), none, []⟩,
    ⟨some 17, .move (.tmp 2), none, []⟩,
    ⟨some 18, .call { callee := .value (.func 110), args := #[(.tmp 14), (.tmp 15), (.tmp 16), (.tmp 17)], argTypes := #[28, 3, 3, 30] }, none, []⟩]) (.seq (.sts [
    ⟨some 19, .move (.tmp 8), none, []⟩,
    ⟨some 7, .assign (.tmp 19), none, []⟩]) (.sts [
    ⟨some 20, .move (.tmp 8), none, []⟩,
    ⟨some 21, .move (.tmp 6), none, []⟩,
    ⟨some 22, .binOp .add 3 (.tmp 20) (.tmp 21) 3, none, []⟩,
    ⟨some 8, .assign (.tmp 22), none, []⟩])))
def d92L0 : Cd :=
  .seq (.seq (.sts [
    ⟨some 11, .move (.tmp 8), none, []⟩,
    ⟨some 12, .move (.tmp 1), none, []⟩,
    ⟨some 13, .binOp .leq 3 (.tmp 11) (.tmp 12) 3, none, []⟩]) (.cond (.tmp 13) (.skip) (.exit 0))) d92S0
def d92S1 : Cd :=
  .block 5 (.seq (.sts [
    ⟨some 36, .move (.tmp 0), none, []⟩,
    ⟨some 37, .move (.tmp 7), none, []⟩,
    ⟨some 38, .move (.tmp 7), none, []⟩,
    ⟨some 39, .move (.tmp 6), none, []⟩,
    ⟨some 40, .binOp .add 3 (.tmp 38) (.tmp 39) 3, none, []⟩,
    ⟨some 41, .move (.tmp 8), none, []⟩,
    ⟨some 42, .move (.tmp 2), none, []⟩,
    ⟨some 43, .call { callee := .value (.func 111), args := #[(.tmp 36), (.tmp 37), (.tmp 40), (.tmp 41), (.tmp 42)], argTypes := #[28, 3, 3, 3, 30] }, none, []⟩]) (.seq (.sts [
    ⟨some 44, .move (.tmp 8), none, []⟩,
    ⟨some 7, .assign (.tmp 44), none, []⟩]) (.sts [
    ⟨some 45, .move (.tmp 8), none, []⟩,
    ⟨some 46, .move (.tmp 6), none, []⟩,
    ⟨some 47, .binOp .mul 3 (.const (.int .i64 2)) (.tmp 46) 3, none, []⟩,
    ⟨some 48, .binOp .add 3 (.tmp 45) (.tmp 47) 3, none, []⟩,
    ⟨some 8, .assign (.tmp 48), none, []⟩])))
def d92L1 : Cd :=
  .seq (.seq (.sts [
    ⟨some 33, .move (.tmp 8), none, []⟩,
    ⟨some 34, .move (.tmp 1), none, []⟩,
    ⟨some 35, .binOp .leq 3 (.tmp 33) (.tmp 34) 3, none, []⟩]) (.cond (.tmp 35) (.skip) (.exit 4))) d92S1
def d92S2 : Cd :=
  .sts [
    ⟨some 61, .move (.tmp 6), none, []⟩,
    ⟨some 62, .binOp .mul 3 (.tmp 61) (.const (.int .i64 2)) 3, none, []⟩,
    ⟨some 6, .assign (.tmp 62), none, []⟩]
def d92S3 : Cd :=
  .seq (.seq (.sts [
    ⟨some 49, .move (.tmp 7), none, []⟩,
    ⟨some 50, .move (.tmp 6), none, []⟩,
    ⟨some 51, .binOp .add 3 (.tmp 49) (.tmp 50) 3, none, []⟩,
    ⟨some 9, .assign (.tmp 51), none, []⟩]) (.seq (.sts [
    ⟨some 52, .move (.tmp 9), none, []⟩,
    ⟨some 53, .move (.tmp 1), none, []⟩,
    ⟨some 54, .binOp .lss 3 (.tmp 52) (.tmp 53) 3, none, []⟩]) (.cond (.tmp 54) (.sts [
    ⟨some 55, .move (.tmp 0), none, []⟩,
    ⟨some 56, .move (.tmp 7), none, []⟩,
    ⟨some 57, .move (.tmp 9), none, []⟩,
    ⟨some 58, .move (.tmp 1), none, []⟩,
    ⟨some 59, .move (.tmp 2), none, []⟩,
    ⟨some 60, .call { callee := .value (.func 111), args := #[(.tmp 55), (.tmp 56), (.tmp 57), (.tmp 58), (.tmp 59)], argTypes := #[28, 3, 3, 3, 30] }, none, []⟩]) (.skip)))) d92S2
def d92S4 : Cd :=
  .block 3 (.seq (.sts [
    ⟨some 31, .move (.tmp 6), none, []⟩,
    ⟨some 32, .binOp .mul 3 (.const (.int .i64 2)) (.tmp 31) 3, none, []⟩,
    ⟨some 7, .assign (.const (.int .i64 0)), none, []⟩,
    ⟨some 8, .assign (.tmp 32), none, []⟩]) (.seq (.block 4 (.loop d92L1)) d92S3))
def d92L2 : Cd :=
  .seq (.seq (.sts [
    ⟨some 28, .move (.tmp 6), none, []⟩,
    ⟨some 29, .move (.tmp 1), none, []⟩,
    ⟨some 30, .binOp .lss 3 (.tmp 28) (.tmp 29) 3, none, []⟩]) (.cond (.tmp 30) (.skip) (.exit 2))) d92S4
def d92S5 : Cd :=
  .seq (.sts [
    ⟨some 23, .move (.tmp 0), none, []⟩,
    ⟨some 24, .move (.tmp 7), none, []⟩,
    ⟨some 25, .move (.tmp 1), none, []⟩,
    ⟨some 26, .move (.tmp 2), none, []⟩,
    ⟨some 27, .call { callee := .value (.func 110), args := #[(.tmp 23), (.tmp 24), (.tmp 25), (.tmp 26)], argTypes := #[28, 3, 3, 30] }, none, []⟩]) (.block 2 (.loop d92L2))
def d92 : Cd :=
  .seq (.sts [
    ⟨some 6, .assign (.const (.int .i64 20)), none, []⟩]) (.seq (.sts [
    ⟨some 10, .move (.tmp 6), none, []⟩,
    ⟨some 7, .assign (.const (.int .i64 0)), none, []⟩,
    ⟨some 8, .assign (.tmp 10), none, []⟩]) (.seq (.block 0 (.loop d92L0)) d92S5))
theorem cd92 : (Try.f92.body.bind (compile Try.prog)) = some d92 := by kernel_rfl
theorem go92 {T : Table} (hT : T 92 = none) {args : List AV} {K : Kont} {σ : Store} (hl : args.length ≤ 63) (h : wpD Try.prog (acall Try.prog T) 63 d92 (retD Try.prog [] K) (env0 args) σ) : acall Try.prog T 92 args K σ :=
  acall_of hT (fn := Try.f92) (by kernel_rfl) cd92 (m := 63) rfl (rs := []) rfl hl h
/- 110 slices.insertionSortCmpFunc[flint/api.Fact] -/
def d110S0 : Cd :=
  .seq (.block 3 (.sts [
    ⟨some 37, .move (.tmp 0), none, []⟩,
    ⟨some 38, .move (.tmp 9), none, []⟩,
    ⟨some 39, .move (.tmp 0), none, []⟩,
    ⟨some 40, .move (.tmp 9), none, []⟩,
    ⟨some 41, .binOp .sub 3 (.tmp 40) (.const (.int .i64 1)) 3, none, []⟩,
    ⟨some 42, .move (.tmp 0), none, []⟩,
    ⟨some 43, .move (.tmp 9), none, []⟩,
    ⟨some 44, .binOp .sub 3 (.tmp 43) (.const (.int .i64 1)) 3, none, []⟩,
    ⟨some 45, .indexAddr 28 (.tmp 42) (.tmp 44), none, []⟩,
    ⟨some 46, .load 25 (.tmp 45), none, []⟩,
    ⟨some 47, .move (.tmp 0), none, []⟩,
    ⟨some 48, .move (.tmp 9), none, []⟩,
    ⟨some 49, .indexAddr 28 (.tmp 47) (.tmp 48), none, []⟩,
    ⟨some 50, .load 25 (.tmp 49), none, []⟩,
    ⟨some 51, .indexAddr 28 (.tmp 37) (.tmp 38), none, []⟩,
    ⟨none, .store 25 (.tmp 51) (.tmp 46), none, []⟩,
    ⟨some 52, .indexAddr 28 (.tmp 39) (.tmp 41), none, []⟩,
    ⟨none, .store 25 (.tmp 52) (.tmp 50), none, []⟩])) (.sts [
    ⟨some 35, .move (.tmp 9), none, []⟩,
    ⟨some 36, .binOp .sub 3 (.tmp 35) (.const (.int .i64 1)) 3, none, []⟩,
    ⟨some 9, .assign (.tmp 36), none, []⟩])
def d110L0 : Cd :=
  .seq (.seq (.sts [
    ⟨some 18, .move (.tmp 9), none, []⟩,
    ⟨some 19, .move (.tmp 1), none, []⟩,
    ⟨some 20, .binOp .gtr 3 (.tmp 18) (.tmp 19) 3, none, []⟩,
    ⟨some 21, .move (.tmp 20), none, []⟩,
    ⟨some 22, .move (.tmp 3), some (some 21, true), []⟩,
    ⟨some 23, .move (.tmp 0), some (some 21, true), []⟩,
    ⟨some 24, .move (.tmp 9), some (some 21, true), []⟩,
    ⟨some 25, .indexAddr 28 (.tmp 23) (.tmp 24), some (some 21, true), []⟩,
    ⟨some 26, .load 25 (.tmp 25), some (some 21, true), []⟩,
    ⟨some 27, .move (.tmp 0), some (some 21, true), []⟩,
    ⟨some 28, .move (.tmp 9), some (some 21, true), []⟩,
    ⟨some 29, .binOp .sub 3 (.tmp 28) (.const (.int .i64 1)) 3, some (some 21, true), []⟩,
    ⟨some 30, .indexAddr 28 (.tmp 27) (.tmp 29), some (some 21, true), []⟩,
    ⟨some 31, .load 25 (.tmp 30), some (some 21, true), []⟩,
    ⟨some 32, .call { callee := .value (.tmp 22), args := #[(.tmp 26), (.tmp 31)], argTypes := #[25, 25] }, some (some 21, true), []⟩,
    ⟨some 33, .binOp .lss 3 (.tmp 32) (.const (.int .i64 0)) 3, some (some 21, true), []⟩,
    ⟨some 34, .pick (.tmp 21) (.tmp 33) (.const (.bool false)), none, []⟩]) (.cond (.tmp 34) (.skip) (.exit 2))) d110S0
def d110S1 : Cd :=
  .sts [
    ⟨some 15, .move (.tmp 8), none, []⟩,
    ⟨some 16, .binOp .add 3 (.tmp 15) (.const (.int .i64 1)) 3, none, []⟩,
    ⟨some 8, .assign (.tmp 16), none, []⟩]
def d110S2 : Cd :=
  .seq (.block 1 (.seq (.sts [
    ⟨some 17, .move (.tmp 8), none, []⟩,
    ⟨some 9, .assign (.tmp 17), none, []⟩]) (.block 2 (.loop d110L0)))) d110S1
def d110L1 : Cd :=
  .seq (.seq (.sts [
    ⟨some 12, .move (.tmp 8), none, []⟩,
    ⟨some 13, .move (.tmp 2), none, []⟩,
    ⟨some 14, .binOp .lss 3 (.tmp 12) (.tmp 13) 3, none, []⟩]) (.cond (.tmp 14) (.skip) (.exit 0))) d110S2
def d110 : Cd :=
  .seq (.sts [
    ⟨some 10, .move (.tmp 1), none, []⟩,
    ⟨some 11, .binOp .add 3 (.tmp 10) (.const (.int .i64 1)) 3, none, []⟩,
    ⟨some 8, .assign (.tmp 11), none, []⟩]) (.block 0 (.loop d110L1))
theorem cd110 : (Try.f110.body.bind (compile Try.prog)) = some d110 := by kernel_rfl
theorem go110 {T : Table} (hT : T 110 = none) {args : List AV} {K : Kont} {σ : Store} (hl : args.length ≤ 53) (h : wpD Try.prog (acall Try.prog T) 53 d110 (retD Try.prog [] K) (env0 args) σ) : acall Try.prog T 110 args K σ :=
  acall_of hT (fn := Try.f110) (by kernel_rfl) cd110 (m := 53) rfl (rs := []) rfl hl h
/- 111 slices.symMergeCmpFunc[flint/api.Fact] -/
def d111S0 : Cd :=
  .block 1 (.seq (.sts [
    ⟨some 34, .move (.tmp 10), none, []⟩,
    ⟨some 35, .move (.tmp 11), none, []⟩,
    ⟨some 36, .binOp .add 3 (.tmp 34) (.tmp 35) 3, none, []⟩,
    ⟨some 37, .convert 3 195 (.tmp 36), none, []⟩,
    ⟨some 38, .binOp .shr 195 (.tmp 37) (.const (.int .u64 1)) 195, none, []⟩,
    ⟨some 39, .convert 195 3 (.tmp 38), none, []⟩,
    ⟨some 12, .assign (.tmp 39), none, []⟩]) (.seq (.sts [
    ⟨some 40, .move (.tmp 4), none, []⟩,
    ⟨some 41, .move (.tmp 0), none, []⟩,
    ⟨some 42, .move (.tmp 12), none, []⟩,
    ⟨some 43, .indexAddr 28 (.tmp 41) (.tmp 42), none, []⟩,
    ⟨some 44, .load 25 (.tmp 43), none, []⟩,
    ⟨some 45, .move (.tmp 0), none, []⟩,
    ⟨some 46, .move (.tmp 1), none, []⟩,
    ⟨some 47, .indexAddr 28 (.tmp 45) (.tmp 46), none, []⟩,
    ⟨some 48, .load 25 (.tmp 47), none, []⟩,
    ⟨some 49, .call { callee := .value (.tmp 40), args := #[(.tmp 44), (.tmp 48)], argTypes := #[25, 25] }, none, []⟩,
    ⟨some 50, .binOp .lss 3 (.tmp 49) (.const (.int .i64 0)) 3, none, []⟩]) (.cond (.tmp 50) (.sts [
    ⟨some 51, .move (.tmp 12), none, []⟩,
    ⟨some 52, .binOp .add 3 (.tmp 51) (.const (.int .i64 1)) 3, none, []⟩,
    ⟨some 10, .assign (.tmp 52), none, []⟩]) (.sts [
    ⟨some 53, .move (.tmp 12), none, []⟩,
    ⟨some 11, .assign (.tmp 53), none, []⟩]))))
def d111L0 : Cd :=
  .seq (.seq (.sts [
    ⟨some 31, .move (.tmp 10), none, []⟩,
    ⟨some 32, .move (.tmp 11), none, []⟩,
    ⟨some 33, .binOp .lss 3 (.tmp 31) (.tmp 32) 3, none, []⟩]) (.cond (.tmp 33) (.skip) (.exit 0))) d111S0
def d111S1 : Cd :=
  .seq (.block 3 (.sts [
    ⟨some 61, .move (.tmp 0), none, []⟩,
    ⟨some 62, .move (.tmp 13), none, []⟩,
    ⟨some 63, .move (.tmp 0), none, []⟩,
    ⟨some 64, .move (.tmp 13), none, []⟩,
    ⟨some 65, .binOp .add 3 (.tmp 64) (.const (.int .i64 1)) 3, none, []⟩,
    ⟨some 66, .move (.tmp 0), none, []⟩,
    ⟨some 67, .move (.tmp 13), none, []⟩,
    ⟨some 68, .binOp .add 3 (.tmp 67) (.const (.int .i64 1)) 3, none, []⟩,
    ⟨some 69, .indexAddr 28 (.tmp 66) (.tmp 68), none, []⟩,
    ⟨some 70, .load 25 (.tmp 69), none, []⟩,
    ⟨some 71, .move (.tmp 0), none, []⟩,
    ⟨some 72, .move (.tmp 13), none, []⟩,
    ⟨some 73, .indexAddr 28 (.tmp 71) (.tmp 72), none, []⟩,
    ⟨some 74, .load 25 (.tmp 73), none, []⟩,
    ⟨some 75, .indexAddr 28 (.tmp 61) (.tmp 62), none, []⟩,
    ⟨none, .store 25 (.tmp 75) (.tmp 70), none, []⟩,
    ⟨some 76, .indexAddr 28 (.tmp 63) (.tmp 65), none, []⟩,
    ⟨none, .store 25 (.tmp 76) (.tmp 74), none, []⟩])) (.sts [
    ⟨some 59, .move (.tmp 13), none, []⟩,
    ⟨some 60, .binOp .add 3 (.tmp 59) (.const (.int .i64 1)) 3, none, []⟩,
    ⟨some 13, .assign (.tmp 60), none, []⟩])
def d111L1 : Cd :=
  .seq (.seq (.sts [
    ⟨some 55, .move (.tmp 13), none, []⟩,
    ⟨some 56, .move (.tmp 10), none, []⟩,
    ⟨some 57, .binOp .sub 3 (.tmp 56) (.const (.int .i64 1)) 3, none, []⟩,
    ⟨some 58, .binOp .lss 3 (.tmp 55) (.tmp 57) 3, none, []⟩]) (.cond (.tmp 58) (.skip) (.exit 2))) d111S1
def d111S2 : Cd :=
  .seq (.seq (.sts [
    ⟨some 54, .move (.tmp 1), none, []⟩,
    ⟨some 13, .assign (.tmp 54), none, []⟩]) (.block 2 (.loop d111L1))) (.ret)
def d111S3 : Cd :=
  .block 5 (.seq (.sts [
    ⟨some 86, .move (.tmp 14), none, []⟩,
    ⟨some 87, .move (.tmp 15), none, []⟩,
    ⟨some 88, .binOp .add 3 (.tmp 86) (.tmp 87) 3, none, []⟩,
    ⟨some 89, .convert 3 195 (.tmp 88), none, []⟩,
    ⟨some 90, .binOp .shr 195 (.tmp 89) (.const (.int .u64 1)) 195, none, []⟩,
    ⟨some 91, .convert 195 3 (.tmp 90), none, []⟩,
    ⟨some 16, .assign (.tmp 91), none, []⟩]) (.seq (.sts [
    ⟨some 92, .move (.tmp 4), none, []⟩,
    ⟨some 93, .move (.tmp 0), none, []⟩,
    ⟨some 94, .move (.tmp 2), none, []⟩,
    ⟨some 95, .indexAddr 28 (.tmp 93) (.tmp 94), none, []⟩,
    ⟨some 96, .load 25 (.tmp 95), none, []⟩,
    ⟨some 97, .move (.tmp 0), none, []⟩,
    ⟨some 98, .move (.tmp 16), none, []⟩,
    ⟨some 99, .indexAddr 28 (.tmp 97) (.tmp 98), none, []⟩,
    ⟨some 100, .load 25 (.tmp 99), none, []⟩,
    ⟨some 101, .call { callee := .value (.tmp 92), args := #[(.tmp 96), (.tmp 100)], argTypes := #[25, 25] }, none, []⟩,
    ⟨some 102, .binOp .lss 3 (.tmp 101) (.const (.int .i64 0)) 3, none, []⟩,
    ⟨some 103, .unOp .not 4 (.tmp 102), none, []⟩]) (.cond (.tmp 103) (.sts [
    ⟨some 104, .move (.tmp 16), none, []⟩,
    ⟨some 105, .binOp .add 3 (.tmp 104) (.const (.int .i64 1)) 3, none, []⟩,
    ⟨some 14, .assign (.tmp 105), none, []⟩]) (.sts [
    ⟨some 106, .move (.tmp 16), none, []⟩,
    ⟨some 15, .assign (.tmp 106), none, []⟩]))))
def d111L2 : Cd :=
  .seq (.seq (.sts [
    ⟨some 83, .move (.tmp 14), none, []⟩,
    ⟨some 84, .move (.tmp 15), none, []⟩,
    ⟨some 85, .binOp .lss 3 (.tmp 83) (.tmp 84) 3, none, []⟩]) (.cond (.tmp 85) (.skip) (.exit 4))) d111S3
def d111S4 : Cd :=
  .seq (.block 7 (.sts [
    ⟨some 113, .move (.tmp 0), none, []⟩,
    ⟨some 114, .move (.tmp 17), none, []⟩,
    ⟨some 115, .move (.tmp 0), none, []⟩,
    ⟨some 116, .move (.tmp 17), none, []⟩,
    ⟨some 117, .binOp .sub 3 (.tmp 116) (.const (.int .i64 1)) 3, none, []⟩,
    ⟨some 118, .move (.tmp 0), none, []⟩,
    ⟨some 119, .move (.tmp 17), none, []⟩,
    ⟨some 120, .binOp .sub 3 (.tmp 119) (.const (.int .i64 1)) 3, none, []⟩,
    ⟨some 121, .indexAddr 28 (.tmp 118) (.tmp 120), none, []⟩,
    ⟨some 122, .load 25 (.tmp 121), none, []⟩,
    ⟨some 123, .move (.tmp 0), none, []⟩,
    ⟨some 124, .move (.tmp 17), none, []⟩,
    ⟨some 125, .indexAddr 28 (.tmp 123) (.tmp 124), none, []⟩,
    ⟨some 126, .load 25 (.tmp 125), none, []⟩,
    ⟨some 127, .indexAddr 28 (.tmp 113) (.tmp 114), none, []⟩,
    ⟨none, .store 25 (.tmp 127) (.tmp 122), none, []⟩,
    ⟨some 128, .indexAddr 28 (.tmp 115) (.tmp 117), none, []⟩,
    ⟨none, .store 25 (.tmp 128) (.tmp 126), none, []⟩])) (.sts [
    ⟨some 111, .move (.tmp 17), none, []⟩,
    ⟨some 112, .binOp .sub 3 (.tmp 111) (.const (.int .i64 1)) 3, none, []⟩,
    ⟨some 17, .assign (.tmp 112), none, []⟩])
def d111L3 : Cd :=
  .seq (.seq (.sts [
    ⟨some 108, .move (.tmp 17), none, []⟩,
    ⟨some 109, .move (.tmp 14), none, []⟩,
    ⟨some 110, .binOp .gtr 3 (.tmp 108) (.tmp 109) 3, none, []⟩]) (.cond (.tmp 110) (.skip) (.exit 6))) d111S4
def d111S5 : Cd :=
  .seq (.seq (.sts [
    ⟨some 107, .move (.tmp 2), none, []⟩,
    ⟨some 17, .assign (.tmp 107), none, []⟩]) (.block 6 (.loop d111L3))) (.ret)
def d111S6 : Cd :=
  .block 9 (.seq (.sts [
    ⟨some 152, .move (.tmp 20), none, []⟩,
    ⟨some 153, .move (.tmp 21), none, []⟩,
    ⟨some 154, .binOp .add 3 (.tmp 152) (.tmp 153) 3, none, []⟩,
    ⟨some 155, .convert 3 195 (.tmp 154), none, []⟩,
    ⟨some 156, .binOp .shr 195 (.tmp 155) (.const (.int .u64 1)) 195, none, []⟩,
    ⟨some 157, .convert 195 3 (.tmp 156), none, []⟩,
    ⟨some 23, .assign (.tmp 157), none, []⟩]) (.seq (.sts [
    ⟨some 158, .move (.tmp 4), none, []⟩,
    ⟨some 159, .move (.tmp 0), none, []⟩,
    ⟨some 160, .move (.tmp 22), none, []⟩,
    ⟨some 161, .move (.tmp 23), none, []⟩,
    ⟨some 162, .binOp .sub 3 (.tmp 160) (.tmp 161) 3, none, []⟩,
    ⟨some 163, .indexAddr 28 (.tmp 159) (.tmp 162), none, []⟩,
    ⟨some 164, .load 25 (.tmp 163), none, []⟩,
    ⟨some 165, .move (.tmp 0), none, []⟩,
    ⟨some 166, .move (.tmp 23), none, []⟩,
    ⟨some 167, .indexAddr 28 (.tmp 165) (.tmp 166), none, []⟩,
    ⟨some 168, .load 25 (.tmp 167), none, []⟩,
    ⟨some 169, .call { callee := .value (.tmp 158), args := #[(.tmp 164), (.tmp 168)], argTypes := #[25, 25] }, none, []⟩,
    ⟨some 170, .binOp .lss 3 (.tmp 169) (.const (.int .i64 0)) 3, none, []⟩,
    ⟨some 171, .unOp .not 4 (.tmp 170), none, []⟩]) (.cond (.tmp 171) (.sts [
    ⟨some 172, .move (.tmp 23), none, []⟩,
    ⟨some 173, .binOp .add 3 (.tmp 172) (.const (.int .i64 1)) 3, none, []⟩,
    ⟨some 20, .assign (.tmp 173), none, []⟩]) (.sts [
    ⟨some 174, .move (.tmp 23), none, []⟩,
    ⟨some 21, .assign (.tmp 174), none, []⟩]))))
def d111L4 : Cd :=
  .seq (.seq (.sts [
    ⟨some 149, .move (.tmp 20), none, []⟩,
    ⟨some 150, .move (.tmp 21), none, []⟩,
    ⟨some 151, .binOp .lss 3 (.tmp 149) (.tmp 150) 3, none, []⟩]) (.cond (.tmp 151) (.skip) (.exit 8))) d111S6
def d111S7 : Cd :=
  .seq (.sts [
    ⟨some 206, .move (.tmp 18), none, []⟩,
    ⟨some 207, .move (.tmp 24), none, []⟩,
    ⟨some 208, .binOp .lss 3 (.tmp 206) (.tmp 207) 3, none, []⟩,
    ⟨some 209, .move (.tmp 208), none, []⟩,
    ⟨some 210, .move (.tmp 24), some (some 209, true), []⟩,
    ⟨some 211, .move (.tmp 3), some (some 209, true), []⟩,
    ⟨some 212, .binOp .lss 3 (.tmp 210) (.tmp 211) 3, some (some 209, true), []⟩,
    ⟨some 213, .pick (.tmp 209) (.tmp 212) (.const (.bool false)), none, []⟩]) (.cond (.tmp 213) (.sts [
    ⟨some 214, .move (.tmp 0), none, []⟩,
    ⟨some 215, .move (.tmp 18), none, []⟩,
    ⟨some 216, .move (.tmp 24), none, []⟩,
    ⟨some 217, .move (.tmp 3), none, []⟩,
    ⟨some 218, .move (.tmp 4), none, []⟩,
    ⟨some 219, .call { callee := .value (.func 111), args := #[(.tmp 214), (.tmp 215), (.tmp 216), (.tmp 217), (.tmp 218)], argTypes := #[28, 3, 3, 3, 30] }, none, []⟩]) (.skip))
def d111S8 : Cd :=
  .seq (.seq (.sts [
    ⟨some 192, .move (.tmp 1), none, []⟩,
    ⟨some 193, .move (.tmp 20), none, []⟩,
    ⟨some 194, .binOp .lss 3 (.tmp 192) (.tmp 193) 3, none, []⟩,
    ⟨some 195, .move (.tmp 194), none, []⟩,
    ⟨some 196, .move (.tmp 20), some (some 195, true), []⟩,
    ⟨some 197, .move (.tmp 18), some (some 195, true), []⟩,
    ⟨some 198, .binOp .lss 3 (.tmp 196) (.tmp 197) 3, some (some 195, true), []⟩,
    ⟨some 199, .pick (.tmp 195) (.tmp 198) (.const (.bool false)), none, []⟩]) (.cond (.tmp 199) (.sts [
    ⟨some 200, .move (.tmp 0), none, []⟩,
    ⟨some 201, .move (.tmp 1), none, []⟩,
    ⟨some 202, .move (.tmp 20), none, []⟩,
    ⟨some 203, .move (.tmp 18), none, []⟩,
    ⟨some 204, .move (.tmp 4), none, []⟩,
    ⟨some 205, .call { callee := .value (.func 111), args := #[(.tmp 200), (.tmp 201), (.tmp 202), (.tmp 203), (.tmp 204)], argTypes := #[28, 3, 3, 3, 30] }, none, []⟩]) (.skip))) d111S7
def d111S9 : Cd :=
  .seq (.sts [
    ⟨some 175, .move (.tmp 19), none, []⟩,
    ⟨some 176, .move (.tmp 20), none, []⟩,
    ⟨some 177, .binOp .sub 3 (.tmp 175) (.tmp 176) 3, none, []⟩,
    ⟨some 24, .assign (.tmp 177), none, []⟩]) (.seq (.seq (.sts [
    ⟨some 178, .move (.tmp 20), none, []⟩,
    ⟨some 179, .move (.tmp 2), none, []⟩,
    ⟨some 180, .binOp .lss 3 (.tmp 178) (.tmp 179) 3, none, []⟩,
    ⟨some 181, .move (.tmp 180), none, []⟩,
    ⟨some 182, .move (.tmp 2), some (some 181, true), []⟩,
    ⟨some 183, .move (.tmp 24), some (some 181, true), []⟩,
    ⟨some 184, .binOp .lss 3 (.tmp 182) (.tmp 183) 3, some (some 181, true), []⟩,
    ⟨some 185, .pick (.tmp 181) (.tmp 184) (.const (.bool false)), none, []⟩]) (.cond (.tmp 185) (.sts [
    ⟨some 186, .move (.tmp 0), none, []⟩,
    ⟨some 187, .move (.tmp 20), none, []⟩,
    ⟨some 188, .move (.tmp 2), none, []⟩,
    ⟨some 189, .move (.tmp 24), none, []⟩,
    ⟨some 190, .move (.tmp 4), none, []⟩,
    ⟨some 191, .call { callee := .value (.func 119), args := #[(.tmp 186), (.tmp 187), (.tmp 188), (.tmp 189), (.tmp 190)], argTypes := #[28, 3, 3, 3, 30] }, none, []⟩]) (.skip))) d111S8)
def d111S10 : Cd :=
  .seq (.sts [
    ⟨some 147, .move (.tmp 19), none, []⟩,
    ⟨some 148, .binOp .sub 3 (.tmp 147) (.const (.int .i64 1)) 3, none, []⟩,
    ⟨some 22, .assign (.tmp 148), none, []⟩]) (.seq (.block 8 (.loop d111L4)) d111S9)
def d111S11 : Cd :=
  .seq (.sts [
    ⟨some 129, .move (.tmp 1), none, []⟩,
    ⟨some 130, .move (.tmp 3), none, []⟩,
    ⟨some 131, .binOp .add 3 (.tmp 129) (.tmp 130) 3, none, []⟩,
    ⟨some 132, .convert 3 195 (.tmp 131), none, []⟩,
    ⟨some 133, .binOp .shr 195 (.tmp 132) (.const (.int .u64 1)) 195, none, []⟩,
    ⟨some 134, .convert 195 3 (.tmp 133), none, []⟩,
    ⟨some 18, .assign (.tmp 134), none, []⟩]) (.seq (.sts [
    ⟨some 135, .move (.tmp 18), none, []⟩,
    ⟨some 136, .move (.tmp 2), none, []⟩,
    ⟨some 137, .binOp .add 3 (.tmp 135) (.tmp 136) 3, none, []⟩,
    ⟨some 19, .assign (.tmp 137), none, []⟩]) (.seq (.sts [
    ⟨some 20, .assign (.const (.int .i64 0)), none, []⟩,
    ⟨some 21, .assign (.const (.int .i64 0)), none, []⟩]) (.seq (.seq (.sts [
    ⟨some 138, .move (.tmp 2), none, []⟩,
    ⟨some 139, .move (.tmp 18), none, []⟩,
    ⟨some 140, .binOp .gtr 3 (.tmp 138) (.tmp 139) 3, none, []⟩]) (.cond (.tmp 140) (.seq (.sts [
    ⟨some 141, .move (.tmp 19), none, []⟩,
    ⟨some 142, .move (.tmp 3), none, []⟩,
    ⟨some 143, .binOp .sub 3 (.tmp 141) (.tmp 142) 3, none, []⟩,
    ⟨some 20, .assign (.tmp 143), none, []⟩]) (.sts [
    ⟨some 144, .move (.tmp 18), none, []⟩,
    ⟨some 21, .assign (.tmp 144), none, []⟩])) (.seq (.sts [
    ⟨some 145, .move (.tmp 1), none, []⟩,
    ⟨some 20, .assign (.tmp 145), none, []⟩]) (.sts [
    ⟨some 146, .move (.tmp 2), none, []⟩,
    ⟨some 21, .assign (.tmp 146), none, []⟩])))) d111S10)))
def d111S12 : Cd :=
  .seq (.seq (.sts [
    ⟨some 77, .move (.tmp 3), none, []⟩,
    ⟨some 78, .move (.tmp 2), none, []⟩,
    ⟨some 79, .binOp .sub 3 (.tmp 77) (.tmp 78) 3, none, []⟩,
    ⟨some 80, .binOp .eql 3 (.tmp 79) (.const (.int .i64 1)) 3, none, []⟩]) (.cond (.tmp 80) (.seq (.sts [
    ⟨some 81, .move (.tmp 1), none, []⟩,
    ⟨some 14, .assign (.tmp 81), none, []⟩]) (.seq (.sts [
    ⟨some 82, .move (.tmp 2), none, []⟩,
    ⟨some 15, .assign (.tmp 82), none, []⟩]) (.seq (.block 4 (.loop d111L2)) d111S5))) (.skip))) d111S11
def d111 : Cd :=
  .seq (.seq (.sts [
    ⟨some 25, .move (.tmp 2), none, []⟩,
    ⟨some 26, .move (.tmp 1), none, []⟩,
    ⟨some 27, .binOp .sub 3 (.tmp 25) (.tmp 26) 3, none, []⟩,
    ⟨some 28, .binOp .eql 3 (.tmp 27) (.const (.int .i64 1)) 3, none, []⟩]) (.cond (.tmp 28) (.seq (.sts [
    ⟨some 29, .move (.tmp 2), none, []⟩,
    ⟨some 10, .assign (.tmp 29), none, []⟩]) (.seq (.sts [
    ⟨some 30, .move (.tmp 3), none, []⟩,
    ⟨some 11, .assign (.tmp 30), none, []⟩]) (.seq (.block 0 (.loop d111L0)) d111S2))) (.skip))) d111S12
theorem cd111 : (Try.f111.body.bind (compile Try.prog)) = some d111 := by kernel_rfl
theorem go111 {T : Table} (hT : T 111 = none) {args : List AV} {K : Kont} {σ : Store} (hl : args.length ≤ 220) (h : wpD Try.prog (acall Try.prog T) 220 d111 (retD Try.prog [] K) (env0 args) σ) : acall Try.prog T 111 args K σ :=
  acall_of hT (fn := Try.f111) (by kernel_rfl) cd111 (m := 220) rfl (rs := []) rfl hl h
/- 119 slices.rotateCmpFunc[flint/api.Fact] -/
def d119S0 : Cd :=
  .block 1 (.seq (.sts [
    ⟨some 21, .move (.tmp 10), none, []⟩,
    ⟨some 22, .move (.tmp 11), none, []⟩,
    ⟨some 23, .binOp .gtr 3 (.tmp 21) (.tmp 22) 3, none, []⟩]) (.cond (.tmp 23) (.seq (.sts [
    ⟨some 24, .move (.tmp 0), none, []⟩,
    ⟨some 25, .move (.tmp 2), none, []⟩,
    ⟨some 26, .move (.tmp 10), none, []⟩,
    ⟨some 27, .binOp .sub 3 (.tmp 25) (.tmp 26) 3, none, []⟩,
    ⟨some 28, .move (.tmp 2), none, []⟩,
    ⟨some 29, .move (.tmp 11), none, []⟩,
    ⟨some 30, .move (.tmp 4), none, []⟩,
    ⟨some 31, .call { callee := .value (.func 131), args := #[(.tmp 24), (.tmp 27), (.tmp 28), (.tmp 29), (.tmp 30)], argTypes := #[28, 3, 3, 3, 30] }, none, []⟩]) (.sts [
    ⟨some 32, .move (.tmp 10), none, []⟩,
    ⟨some 33, .move (.tmp 11), none, []⟩,
    ⟨some 34, .binOp .sub 3 (.tmp 32) (.tmp 33) 3, none, []⟩,
    ⟨some 10, .assign (.tmp 34), none, []⟩])) (.seq (.sts [
    ⟨some 35, .move (.tmp 0), none, []⟩,
    ⟨some 36, .move (.tmp 2), none, []⟩,
    ⟨some 37, .move (.tmp 10), none, []⟩,
    ⟨some 38, .binOp .sub 3 (.tmp 36) (.tmp 37) 3, none, []⟩,
    ⟨some 39, .move (.tmp 2), none, []⟩,
    ⟨some 40, .move (.tmp 11), none, []⟩,
    ⟨some 41, .binOp .add 3 (.tmp 39) (.tmp 40) 3, none, []⟩,
    ⟨some 42, .move (.tmp 10), none, []⟩,
    ⟨some 43, .binOp .sub 3 (.tmp 41) (.tmp 42) 3, none, []⟩,
    ⟨some 44, .move (.tmp 10), none, []⟩,
    ⟨some 45, .move (.tmp 4), none, []⟩,
    ⟨some 46, .call { callee := .value (.func 131), args := #[(.tmp 35), (.tmp 38), (.tmp 43), (.tmp 44), (.tmp 45)], argTypes := #[28, 3, 3, 3, 30] }, none, []⟩]) (.sts [
    ⟨some 47, .move (.tmp 11), none, []⟩,
    ⟨some 48, .move (.tmp 10), none, []⟩,
    ⟨some 49, .binOp .sub 3 (.tmp 47) (.tmp 48) 3, none, []⟩,
    ⟨some 11, .assign (.tmp 49), none, []⟩]))))
def d119L0 : Cd :=
  .seq (.seq (.sts [
    ⟨some 18, .move (.tmp 10), none, []⟩,
    ⟨some 19, .move (.tmp 11), none, []⟩,
    ⟨some 20, .binOp .neq 3 (.tmp 18) (.tmp 19) 3, none, []⟩]) (.cond (.tmp 20) (.skip) (.exit 0))) d119S0
def d119S1 : Cd :=
  .sts [
    ⟨some 50, .move (.tmp 0), none, []⟩,
    ⟨some 51, .move (.tmp 2), none, []⟩,
    ⟨some 52, .move (.tmp 10), none, []⟩,
    ⟨some 53, .binOp .sub 3 (.tmp 51) (.tmp 52) 3, none, []⟩,
    ⟨some 54, .move (.tmp 2), none, []⟩,
    ⟨some 55, .move (.tmp 10), none, []⟩,
    ⟨some 56, .move (.tmp 4), none, []⟩,
    ⟨some 57, .call { callee := .value (.func 131), args := #[(.tmp 50), (.tmp 53), (.tmp 54), (.tmp 55), (.tmp 56)], argTypes := #[28, 3, 3, 3, 30] }, none, []⟩]
def d119 : Cd :=
  .seq (.sts [
    ⟨some 12, .move (.tmp 2), none, []⟩,
    ⟨some 13, .move (.tmp 1), none, []⟩,
    ⟨some 14, .binOp .sub 3 (.tmp 12) (.tmp 13) 3, none, []⟩,
    ⟨some 10, .assign (.tmp 14), none, []⟩]) (.seq (.sts [
    ⟨some 15, .move (.tmp 3), none, []⟩,
    ⟨some 16, .move (.tmp 2), none, []⟩,
    ⟨some 17, .binOp .sub 3 (.tmp 15) (.tmp 16) 3, none, []⟩,
    ⟨some 11, .assign (.tmp 17), none, []⟩]) (.seq (.block 0 (.loop d119L0)) d119S1))
theorem cd119 : (Try.f119.body.bind (compile Try.prog)) = some d119 := by kernel_rfl
theorem go119 {T : Table} (hT : T 119 = none) {args : List AV} {K : Kont} {σ : Store} (hl : args.length ≤ 58) (h : wpD Try.prog (acall Try.prog T) 58 d119 (retD Try.prog [] K) (env0 args) σ) : acall Try.prog T 119 args K σ :=
  acall_of hT (fn := Try.f119) (by kernel_rfl) cd119 (m := 58) rfl (rs := []) rfl hl h
/- 131 slices.swapRangeCmpFunc[flint/api.Fact] -/
def d131S0 : Cd :=
  .seq (.block 1 (.sts [
    ⟨some 16, .move (.tmp 0), none, []⟩,
    ⟨some 17, .move (.tmp 1), none, []⟩,
    ⟨some 18, .move (.tmp 10), none, []⟩,
    ⟨some 19, .binOp .add 3 (.tmp 17) (.tmp 18) 3, none, []⟩,
    ⟨some 20, .move (.tmp 0), none, []⟩,
    ⟨some 21, .move (.tmp 2), none, []⟩,
    ⟨some 22, .move (.tmp 10), none, []⟩,
    ⟨some 23, .binOp .add 3 (.tmp 21) (.tmp 22) 3, none, []⟩,
    ⟨some 24, .move (.tmp 0), none, []⟩,
    ⟨some 25, .move (.tmp 2), none, []⟩,
    ⟨some 26, .move (.tmp 10), none, []⟩,
    ⟨some 27, .binOp .add 3 (.tmp 25) (.tmp 26) 3, none, []⟩,
    ⟨some 28, .indexAddr 28 (.tmp 24) (.tmp 27), none, []⟩,
    ⟨some 29, .load 25 (.tmp 28), none, []⟩,
    ⟨some 30, .move (.tmp 0), none, []⟩,
    ⟨some 31, .move (.tmp 1), none, []⟩,
    ⟨some 32, .move (.tmp 10), none, []⟩,
    ⟨some 33, .binOp .add 3 (.tmp 31) (.tmp 32) 3, none, []⟩,
    ⟨some 34, .indexAddr 28 (.tmp 30) (.tmp 33), none, []⟩,
    ⟨some 35, .load 25 (.tmp 34), none, []⟩,
    ⟨some 36, .indexAddr 28 (.tmp 16) (.tmp 19), none, []⟩,
    ⟨none, .store 25 (.tmp 36) (.tmp 29), none, []⟩,
    ⟨some 37, .indexAddr 28 (.tmp 20) (.tmp 23), none, []⟩,
    ⟨none, .store 25 (.tmp 37) (.tmp 35), none, []⟩])) (.sts [
    ⟨some 14, .move (.tmp 10), none, []⟩,
    ⟨some 15, .binOp .add 3 (.tmp 14) (.const (.int .i64 1)) 3, none, []⟩,
    ⟨some 10, .assign (.tmp 15), none, []⟩])
def d131L0 : Cd :=
  .seq (.seq (.sts [
    ⟨some 11, .move (.tmp 10), none, []⟩,
    ⟨some 12, .move (.tmp 3), none, []⟩,
    ⟨some 13, .binOp .lss 3 (.tmp 11) (.tmp 12) 3, none, []⟩]) (.cond (.tmp 13) (.skip) (.exit 0))) d131S0
def d131 : Cd :=
  .seq (.sts [
    ⟨some 10, .assign (.const (.int .i64 0)), none, []⟩]) (.block 0 (.loop d131L0))
theorem cd131 : (Try.f131.body.bind (compile Try.prog)) = some d131 := by kernel_rfl
theorem go131 {T : Table} (hT : T 131 = none) {args : List AV} {K : Kont} {σ : Store} (hl : args.length ≤ 38) (h : wpD Try.prog (acall Try.prog T) 38 d131 (retD Try.prog [] K) (env0 args) σ) : acall Try.prog T 131 args K σ :=
  acall_of hT (fn := Try.f131) (by kernel_rfl) cd131 (m := 38) rfl (rs := []) rfl hl h
end Go.Proofs.Ytbkmjmhoclflnaa.Fw
