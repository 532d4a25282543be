/- The Go function remontoirelaw29.ScriptNumbers returns true for every input and leaves its arguments as they were. Conditions: the listed package-level variables hold what the program's text lays (tied by the card); arguments are of the sizes that the form allows. -/
import Derived.Test.YtacnlglmldplbaaDoorH
import Derived.Test.YtacnlglmldplbaaDoorCards
import Derived.Test.YtacnlglmldplbaaDoorTie
import Derived.WalkKit
import Derived.ProofKit
import Derived.OpenShut
import Derived.ShutString
import Derived.Deep.DeepHandedRow
import Derived.Lib.LaidTab
import Derived.HandedShaped
import Derived.LaidOnce
import Derived.Lay
import Derived.ChangeMaps5
import Derived.Shelf.Vars
set_option linter.unusedSimpArgs false
set_option linter.unusedVariables false
namespace Go.Proofs.YtacnlglmldplbaaDoor
open Go Go.Sx Go.ChangeShapes Go.WideShapes Go.ChangeAt Go.RowKit

/-- AN ARRAY OF STRINGS THAT READS AS A LIST HOLDS THAT LIST's STRINGS. -/
theorem cells_of_strs {H : Type} {enc : TypeId × Value → H} {P : Program} {w : World} {base : Nat} {sp : Nat → Bool} {held : Bool} {fuel : Nat} {t e : TypeId} {n : Nat} {cs : List Value} {zs : List (List UInt8)} {p : List MemPlace}
    (ht : P.underlying t = some (.array n e)) (he : P.underlying e = some .string) (hce : P.cellsOf e = 1) (hct : P.cellsOf t = n)
    (h : DataW.trod enc P w base sp held fuel t cs = some (.agg (zs.map fun z => .lit (.string z)), p)) : cs = zs.map fun z => Value.string ⟨z.toArray⟩ := by
  cases fuel with
  | zero => simp [DataW.trod] at h
  | succ fuel =>
    simp only [DataW.trod, ht, hce, hct, Nat.mul_one] at h
    split at h
    · rename_i hl
      obtain ⟨xs, hm, hx⟩ := Option.map_eq_some_iff.1 h
      have hxs : xs.map (·.1) = zs.map fun z => (DataW.lit (.string z) : DataW H) := by
        have := congrArg Prod.fst hx
        simpa using this
      have hxl : xs.length = n := by simpa using Lib.mapM_length hm
      have hzl : zs.length = n := by
        have := congrArg List.length hxs
        simp at this
        omega
      apply List.ext_getElem?
      intro i
      by_cases hi : i < n
      · obtain ⟨b, hb, hf⟩ := Lib.mapM_at hm i i (by simp [hi])
        obtain ⟨z, hc, rfl, _⟩ := DataW.trod_string he hf
        have h1 : cs[i]? = some (.string z) := by
          have := congrArg (·[0]?) hc
          simpa [List.getElem?_take, List.getElem?_drop] using this
        have h2 : (xs.map (·.1))[i]? = some (DataW.lit (.string z.data.toList) : DataW H) := by simp [hb]
        rw [hxs] at h2
        simp only [List.getElem?_map, Option.map_eq_some_iff, DataW.lit.injEq, Lit.string.injEq] at h2
        obtain ⟨z', hz', rfl⟩ := h2
        simp [h1, hz']
      · rw [List.getElem?_eq_none (by omega), List.getElem?_eq_none (by simp; omega)]
    · cases h

theorem laid_at {P : Program} {W : World} {n : String} {d : DataW Unit} : ∀ {l : List (String × DataW Unit)} {ps : List MemPlace}, DataW.LaidVars P W l ps → (n, d) ∈ l →
    ∃ g t cs fuel p, P.globalNamed n = some g ∧ (P.globals[g]?).map (·.type) = some t ∧ W.var? P n = some cs ∧ DataW.trod (fun _ => ()) P W 0 (fun _ => true) false fuel t cs.toList = some (d, p)
  | [], _, _, h => by cases h
  | (m, e) :: r, ps, hl, h => by
    obtain ⟨g, t, cs, fuel, p, q, h1, h2, h3, h4, h5, _⟩ := hl
    simp only [List.mem_cons, Prod.mk.injEq] at h
    rcases h with ⟨rfl, rfl⟩ | h
    · exact ⟨g, t, cs, fuel, p, h1, h2, h3, h4⟩
    · exact laid_at h5 h

/-- What the list says of a table of strings, cell by cell. -/
theorem strs_laid {P : Program} {W : World} {l : List (String × DataW Unit)} (h : laidMet P l W) {n : String} {zs : List (List UInt8)} {g : Nat} {t e : TypeId} {m : Nat}
    (hm : (n, .agg (zs.map fun z => .lit (.string z))) ∈ l) (hg : P.globalNamed n = some g) (hty : (P.globals[g]?).map (·.type) = some t) (ht : P.underlying t = some (.array m e)) (he : P.underlying e = some .string) (hce : P.cellsOf e = 1) (hct : P.cellsOf t = m)
    (i : Nat) (hi : i < zs.length) : W.cell? ⟨g, i, none⟩ = some (.string ⟨(zs.getD i []).toArray⟩) := by
  obtain ⟨ps, hl, _⟩ := h
  obtain ⟨g', t', cs, fuel, p, hg', ht', hvar, hd⟩ := laid_at hl hm
  obtain rfl := Option.some.inj (hg.symm.trans hg')
  obtain rfl := Option.some.inj (hty.symm.trans ht')
  have hc := cells_of_strs ht he hce hct hd
  rw [World.var?_cell hg hvar i]
  have : cs[i]? = cs.toList[i]? := by simp
  rw [this, hc]
  simp [hi]

theorem keptBut_same {w w' : World} (h1 : w'.os = w.os) (h2 : w'.output = w.output) (h : ∀ i, i < w.heap.size → w'.heap[i]? = w.heap[i]?) (may : MemPlace → Prop) : w.keptBut w' may := by
  refine World.keptBut_mono (fun _ f => f.elim) (may := fun _ => False) ⟨h1, h2, fun i hi => ?_⟩
  rw [h i hi]
  exact (World.keptBut_refl w (fun _ => False)).2.2 i hi

/-- Where a call begins: all that stands is only read. -/
theorem mem_start (P : Program) (W : World) (ρ : Sx.Env) : Mem ⟨P, W, ρ, fun b => b < W.heap.size, fun b => b < W.heap.size, fun _ h => h⟩ ρ (fun b => b < W.heap.size) W [] :=
  ⟨rfl, rfl, rfl, Nat.le_refl _, Ext.refl _ _ _, fun _ _ => rfl, fun _ hb => ⟨hb, .inl hb⟩, fun _ _ h => (by cases h), fun _ _ _ h => (by cases h), fun _ _ _ _ _ h => (by cases h)⟩
end Go.Proofs.YtacnlglmldplbaaDoor
namespace Go.Proofs.YtacnlglmldplbaaDoor
open Go Go.Sx Go.Sx.Tryd Go.ChangeMaps Go.ChangeShapes Go.WideShapes Go.ChangeAt Go.RowKit

theorem own : ownKnob Tryd.prog.godebug = none := by kernel_rfl
theorem laidPlain (W : World) (h : laidMetH Tryd.prog Rows.scriptNumbersRow.laid W) : laidMet Tryd.prog Rows.scriptNumbersRow.laid W := h

/-- The tables that the rows list, and some number of the library's: what the walks read. -/
theorem gl_ok (W : World) (h : laidMet Tryd.prog Rows.scriptNumbersRow.laid W) {mx : Int} (hm : W.cell? ⟨3, 0, none⟩ = some (.int .i64 mx)) (hsz : 4 ≤ W.heap.size) : GlOk (glS mx) (fun b => b < W.heap.size) W := by
  intro g c hg
  have tab : ∀ (n : String) (zs : List (List UInt8)) (g t m : Nat), (n, .agg (zs.map fun z => .lit (.string z))) ∈ Rows.scriptNumbersRow.laid → Tryd.prog.globalNamed n = some g → (Tryd.prog.globals[g]?).map (·.type) = some t → Tryd.prog.underlying t = some (.array m 9) → Tryd.prog.cellsOf t = m → zs.length = m → g < 4 →
      (CV.rop m 1 (tabF zs) 0 0).den0 (fun b => b < W.heap.size) W (.pointer (some ⟨g, 0, none⟩)) := fun n zs g t m h1 h2 h3 h4 h5 h6 h7 => by
    refine ⟨g, 0, by simp, by omega, fun i j hi hj => ?_⟩
    have hi : i = 0 := by omega
    subst hi
    have := strs_laid h h1 h2 h3 h4 (show Tryd.prog.underlying 9 = some .string from Tryd.underlying9) (by kernel_rfl) h5 j (by omega)
    exact ⟨_, by simpa using this, rfl⟩
  unfold glS at hg
  match g, hg with
  | 0, hg =>
    simp only [beq_self_eq_true, cond_true, Option.some.injEq] at hg
    subst hg
    exact tab "remontoire/script.names" kindL 0 68 18 (by simp [Rows.scriptNumbersRow, Rows.laid_remontoire_script_names, kindL]) (by kernel_rfl) (by kernel_rfl) (by kernel_rfl) (by kernel_rfl) rfl (by decide)
  | 1, hg =>
    simp only [Nat.reduceBEq, beq_self_eq_true, cond_true, cond_false, Option.some.injEq] at hg
    subst hg
    exact tab "remontoire/cpu.names" instL 1 136 19 (by simp [Rows.scriptNumbersRow, Rows.laid_remontoire_cpu_names, instL]) (by kernel_rfl) (by kernel_rfl) (by kernel_rfl) (by kernel_rfl) rfl (by decide)
  | 2, hg =>
    simp only [Nat.reduceBEq, beq_self_eq_true, cond_true, cond_false, Option.some.injEq] at hg
    subst hg
    exact tab "remontoire/call.names" callL 2 137 20 (by simp [Rows.scriptNumbersRow, Rows.laid_remontoire_call_names, callL]) (by kernel_rfl) (by kernel_rfl) (by kernel_rfl) (by kernel_rfl) rfl (by decide)
  | 3, hg =>
    simp only [Nat.reduceBEq, beq_self_eq_true, cond_true, cond_false, Option.some.injEq] at hg
    subst hg
    refine ⟨3, 0, by simp, by show 3 < _; omega, fun i j hi hj => ?_⟩
    have hi : i = 0 := by omega
    have hj : j = 0 := by omega
    subst hi hj
    exact ⟨_, by simpa using hm, rfl⟩
  | g + 4, hg => simp at hg


set_option maxRecDepth 100000 in
theorem numbers_contract (H : Type) (enc : TypeId × Value → H) (W : World) (base : Nat) (args : Array Value) (ds gs : List (DataW H)) (before : List MemPlace)
    (hval : ∀ (j : Nat) t v, Tryd.f3.params[j]? = some t → args[j]? = some v → Value.okWide Tryd.prog W .any base t v)
    (hW : DataW.Whole enc Tryd.prog Tryd.f3.params.toList Rows.scriptNumbersSpec.vars false W args.toList ds gs before) (hL : laidMetH Tryd.prog Rows.scriptNumbersRow.laid W) (hsh : W.ShapedOpen Tryd.prog) :
    Calls Tryd.prog 3 args W fun e W' => ∃ v, e = .returned v ∧ Rows.scriptNumbersSpec.post enc Tryd.prog Tryd.f3 false true false false W args v W' := by
  have hW' := hW
  obtain ⟨p, q, hA0, hV, rfl, hfz, hnd⟩ := hW
  have hA : DataW.TrodAll enc Tryd.prog W 0 (fun _ => true) true Tryd.f3.params.toList args.toList ds p := hA0
  rw [Tryd.params3] at hA hval
  obtain ⟨v0, vs0, d0, ds0, p0, q0, hargs, rfl, rfl, h0, r0⟩ := trodAll_cons hA
  obtain ⟨v1, vs1, d1, ds1, p1, q1, rfl, rfl, rfl, h1, r1⟩ := trodAll_cons r0
  obtain ⟨v2, vs2, d2, ds2, p2, q2, rfl, rfl, rfl, h2, r2⟩ := trodAll_cons r1
  obtain ⟨rfl, rfl, rfl⟩ := trodAll_nil r2
  obtain rfl : args = #[v0, v1, v2] := by cases args; simp_all
  obtain ⟨rfl, rfl⟩ := trodVars_none hV
  obtain ⟨s, rfl, rfl, rfl, ws⟩ := open_string Tryd.underlying9 (hval 0 9 v0 rfl rfl) h0
  obtain ⟨m, rfl, rfl, rfl, wm⟩ := open_int Tryd.underlying22 (hval 1 22 v1 rfl rfl) h1
  obtain ⟨k, rfl, rfl, rfl, wk⟩ := open_int Tryd.underlying3 (hval 2 3 v2 rfl rfl) h2
  have hm : 0 ≤ m ∧ m < 18446744073709551616 := by
    simp [Lit.wf, IntKind.min, IntKind.max, IntKind.signed, IntKind.bits] at wm
    omega
  obtain ⟨mx, hmx⟩ := cell_of_shapedOpen_int (P := Tryd.prog) (g := 3) (t := 3) (zero := #[.int .i64 0]) hsh (of_decide_eq_true (by kernel_rfl)) (by kernel_rfl) rfl (by kernel_rfl) (by kernel_rfl) Tryd.underlying3
  have hsz : 4 ≤ W.heap.size := by
    have hb : W.heap[3]? ≠ none := fun e => by simp [World.cell?, e] at hmx
    have : ¬ W.heap.size ≤ 3 := fun h => hb (Array.getElem?_eq_none_iff.2 h)
    omega
  have hgl := gl_ok W (laidPlain W hL) hmx hsz
  have hdo := numbers_does (mx := mx) W ⟨0, fun _ => none, fun _ => .slice none 0 0⟩ (fun b => b < W.heap.size) (fun b => b < W.heap.size) (fun _ h => h) (s.data.toList, m, k) #[.string s, .int .u64 m, .int .i64 k] rfl (mem_start _ _ _) ⟨by show Value.string s = .string ⟨s.data.toList.toArray⟩; simp, rfl, rfl, trivial⟩ hm hgl
  refine Calls.mono hdo ?_
  rintro e W' ⟨v, b, ρ', S', rfl, _, hmem, _, hv⟩
  have hv : v = .bool true := hv
  subst hv
  refine ⟨_, rfl, _, _, _, [], _, [], hW', trodAll_cons_mk (shut_bool Tryd.underlying4 _) trodAll_mk0, trodAll_cons_mk (shut_string Tryd.underlying9 ws) (trodAll_cons_mk (shut_int Tryd.underlying22 wm) (trodAll_cons_mk (shut_int Tryd.underlying3 wk) trodAll_mk0)), rfl, keptBut_same hmem.os hmem.output hmem.fr _, fun h => by cases h⟩

/-- A world for the witness: the settled one, the tables holding what their initialisers lay. -/
noncomputable def laidWorld (os : Os) : World :=
  { World.holding Tryd.prog os ⟨#[], #[], []⟩ with heap := ((((((World.holding Tryd.prog os ⟨#[], #[], []⟩).heap.modify 0 fun
      | .cells _ t frozen => .cells (kindL.map fun z => Value.string ⟨z.toArray⟩).toArray t frozen
      | o => o).modify 1 fun
      | .cells _ t frozen => .cells (instL.map fun z => Value.string ⟨z.toArray⟩).toArray t frozen
      | o => o).modify 2 fun
      | .cells _ t frozen => .cells (callL.map fun z => Value.string ⟨z.toArray⟩).toArray t frozen
      | o => o).modify 5 fun
      | .cells _ t frozen => .cells (match Rows.laid_unicode_utf8_first with | .agg l => (l.map fun d => match d with | .lit (.int k n) => Value.int k n | _ => undef).toArray | _ => #[]) t frozen
      | o => o).modify 6 fun
      | .cells _ t frozen => .cells #[.int .u8 128, .int .u8 191, .int .u8 160, .int .u8 191, .int .u8 128, .int .u8 159, .int .u8 144, .int .u8 191, .int .u8 128, .int .u8 143, .int .u8 0, .int .u8 0, .int .u8 0, .int .u8 0, .int .u8 0, .int .u8 0, .int .u8 0, .int .u8 0, .int .u8 0, .int .u8 0, .int .u8 0, .int .u8 0, .int .u8 0, .int .u8 0, .int .u8 0, .int .u8 0, .int .u8 0, .int .u8 0, .int .u8 0, .int .u8 0, .int .u8 0, .int .u8 0] t frozen
      | o => o) }
def wargs : Array Value := #[.string ⟨#[]⟩, .int .u64 0, .int .i64 0]
theorem laid_met (os : Os) : laidMet Tryd.prog Rows.scriptNumbersRow.laid ((laidWorld os).forCall (fun _ _ => 0) ⟨#[], wargs, []⟩).memory :=
  laidMet_of_run' 8 (by kernel_rfl) (by kernel_rfl)
theorem reads (os : Os) {H : Type} (enc : TypeId × Value → H) : ∃ places, DataW.whole enc Tryd.prog ((laidWorld os).forCall (fun _ _ => 0) ⟨#[], wargs, []⟩).memory Tryd.f3.params.toList Rows.scriptNumbersSpec.vars false wargs.toList 8 = some ([.lit (.string []), .lit (.int .u64 0), .lit (.int .i64 0)], [], places) :=
  ⟨[], by kernel_rfl⟩
set_option maxRecDepth 100000 in
theorem lifted (os : Os) (started : os.Started) (H : Type) (enc : TypeId × Value → H) (F : Stop.Interp) :
    ReturnsInHanded {} Tryd.checked os 3 .any ((OpenSpec.ofChange Rows.scriptNumbersSpec).preRow enc Tryd.prog Tryd.f3 Rows.scriptNumbersRow.domain false Rows.scriptNumbersRow.laid) (((OpenSpec.ofChange Rows.scriptNumbersSpec).at F).post enc Tryd.prog Tryd.f3 false true false false) := by
  obtain ⟨places, hx⟩ := reads os enc
  refine returnsInHanded_of_row (C := Tryd.checked) (s := OpenSpec.ofChange Rows.scriptNumbersSpec) own started (by kernel_rfl) Tryd.func3
    (witness_row_at (enc := enc) (C := Tryd.checked) false (laidWorld os) wargs rfl (by kernel_rfl) (by kernel_rfl) (by kernel_rfl)
      (OpenSpec.preRow_of_cond 8 hx (by kernel_rfl) (fun k hk => by cases hk) (by kernel_rfl) (laid_met os))) ?_
  intro W base args ds gs before hval hW _ _ _ hL hsh _
  exact numbers_contract H enc W base args ds gs before hval hW hL hsh
theorem said : Rows.ScriptNumbersSaid :=
  OpenClaim.holds_of_cond 3 Tryd.f3 rfl rfl rfl rfl rfl rfl rfl ⟨rfl, rfl, rfl, rfl, rfl⟩ rfl rfl rfl rfl rfl (by kernel_rfl) Tryd.func3 (by kernel_rfl)
    (of_decide_eq_true (by kernel_rfl)) (by unfold Func.isWrapper; first | (rw [if_pos (by decide +kernel)]; kernel_rfl) | (rw [if_neg (by decide +kernel)]; exact ⟨rfl, rfl⟩))
    (fun os started H enc _ F => by rw [OpenClaim.pre_eq_preRow]; exact lifted os started H enc F)
theorem plain (f : FuncId) (fn : Func) (hf : Tryd.pinned.checked.prog.funcNamed "remontoire/remontoirelaw29.ScriptNumbers" = some f) (hfn : Tryd.pinned.checked.prog.funcs[f]? = some fn) :
    false = Tryd.pinned.checked.prog.looks [] ∧ ∀ (j : Nat) t, fn.params[j]? = some t → Tryd.pinned.checked.prog.wantsStandIn t = false := by
  obtain rfl : f = 3 := Option.some.inj ((show Tryd.prog.funcNamed "remontoire/remontoirelaw29.ScriptNumbers" = some 3 by kernel_rfl).symm.trans hf) |>.symm
  obtain rfl : fn = Tryd.f3 := (Option.some.inj (Tryd.func3.symm.trans hfn)).symm
  refine ⟨by kernel_rfl, fun j t ht => ?_⟩
  rw [Tryd.params3] at ht
  have hm := Array.mem_of_getElem? ht
  simp only [List.mem_toArray, List.mem_cons, List.not_mem_nil, or_false] at hm
  rcases hm with rfl | rfl | rfl
  · exact (show Tryd.prog.wantsStandIn 9 = false by kernel_rfl)
  · exact (show Tryd.prog.wantsStandIn 22 = false by kernel_rfl)
  · exact (show Tryd.prog.wantsStandIn 3 = false by kernel_rfl)
theorem scriptNumbers_card : Rows.ScriptNumbersCardSaid :=
  Claim7.holds_tied_plain_at .later [] _ _ _ _ said (fun _ h => by cases h) (by kernel_rfl) (fun _ h => by cases h) scriptNumbers_row_tie rfl ⟨rfl, rfl⟩ (by kernel_rfl) rfl plain (by kernel_rfl)
end Go.Proofs.YtacnlglmldplbaaDoor
