/- ScriptParses holds: for every text the program's Parse and the document's answer the same lines, or the same line that is none and why; no condition but the tables that the row lists. -/
import Derived.Test.YtacnlglmldplbaaDoorI
set_option linter.unusedSimpArgs false
set_option linter.unusedVariables false
namespace Go.Proofs.YtacnlglmldplbaaDoor
open Go Go.Sx Go.Sx.Tryd Go.ChangeMaps Go.ChangeShapes Go.WideShapes Go.ChangeAt Go.RowKit

theorem own : ownKnob Tryd.prog.godebug = none := by kernel_rfl
theorem laidPlain (W : World) (h : laidMetH Tryd.prog Rows.scriptParsesRow.laid W) : laidMet Tryd.prog Rows.scriptParsesRow.laid W := h

/-- The tables that the rows list, and some number of the library's: what the walks read. -/
theorem gl_ok (W : World) (h : laidMet Tryd.prog Rows.scriptParsesRow.laid W) {mx : Int} (hm : W.cell? ⟨3, 0, none⟩ = some (.int .i64 mx)) (hsz : 4 ≤ W.heap.size) : GlOk (glS mx) (fun b => b < W.heap.size) W := by
  intro g c hg
  have tab : ∀ (n : String) (zs : List (List UInt8)) (g t m : Nat), (n, .agg (zs.map fun z => .lit (.string z))) ∈ Rows.scriptParsesRow.laid → Tryd.prog.globalNamed n = some g → (Tryd.prog.globals[g]?).map (·.type) = some t → Tryd.prog.underlying t = some (.array m 9) → Tryd.prog.cellsOf t = m → zs.length = m → g < 4 →
      (CV.rop m 1 (tabF zs) 0 0).den0 (fun b => b < W.heap.size) W (.pointer (some ⟨g, 0, none⟩)) := fun n zs g t m h1 h2 h3 h4 h5 h6 h7 => by
    refine ⟨g, 0, by simp, by omega, fun i j hi hj => ?_⟩
    have hi : i = 0 := by omega
    subst hi
    have := strs_laid h h1 h2 h3 h4 (show Tryd.prog.underlying 9 = some .string from Tryd.underlying9) (by kernel_rfl) h5 j (by omega)
    exact ⟨_, by simpa using this, rfl⟩
  unfold glS at hg
  match g, hg with
  | 0, hg =>
    simp only [beq_self_eq_true, cond_true, Option.some.injEq] at hg
    subst hg
    exact tab "remontoire/script.names" kindL 0 68 18 (by simp [Rows.scriptParsesRow, Rows.laid_remontoire_script_names, kindL]) (by kernel_rfl) (by kernel_rfl) (by kernel_rfl) (by kernel_rfl) rfl (by decide)
  | 1, hg =>
    simp only [Nat.reduceBEq, beq_self_eq_true, cond_true, cond_false, Option.some.injEq] at hg
    subst hg
    exact tab "remontoire/cpu.names" instL 1 136 19 (by simp [Rows.scriptParsesRow, Rows.laid_remontoire_cpu_names, instL]) (by kernel_rfl) (by kernel_rfl) (by kernel_rfl) (by kernel_rfl) rfl (by decide)
  | 2, hg =>
    simp only [Nat.reduceBEq, beq_self_eq_true, cond_true, cond_false, Option.some.injEq] at hg
    subst hg
    exact tab "remontoire/call.names" callL 2 137 20 (by simp [Rows.scriptParsesRow, Rows.laid_remontoire_call_names, callL]) (by kernel_rfl) (by kernel_rfl) (by kernel_rfl) (by kernel_rfl) rfl (by decide)
  | 3, hg =>
    simp only [Nat.reduceBEq, beq_self_eq_true, cond_true, cond_false, Option.some.injEq] at hg
    subst hg
    refine ⟨3, 0, by simp, by show 3 < _; omega, fun i j hi hj => ?_⟩
    have hi : i = 0 := by omega
    have hj : j = 0 := by omega
    subst hi hj
    exact ⟨_, by simpa using hm, rfl⟩
  | g + 4, hg => simp at hg


set_option maxRecDepth 100000 in
theorem parses_contract (H : Type) (enc : TypeId × Value → H) (W : World) (base : Nat) (args : Array Value) (ds gs : List (DataW H)) (before : List MemPlace)
    (hval : ∀ (j : Nat) t v, Tryd.f4.params[j]? = some t → args[j]? = some v → Value.okWide Tryd.prog W .any base t v)
    (hW : DataW.Whole enc Tryd.prog Tryd.f4.params.toList Rows.scriptParsesSpec.vars false W args.toList ds gs before) (hL : laidMetH Tryd.prog Rows.scriptParsesRow.laid W) (hsh : W.ShapedOpen Tryd.prog) :
    Calls Tryd.prog 4 args W fun e W' => ∃ v, e = .returned v ∧ Rows.scriptParsesSpec.post enc Tryd.prog Tryd.f4 false true false false W args v W' := by
  have hW' := hW
  obtain ⟨p, q, hA0, hV, rfl, hfz, hnd⟩ := hW
  have hA : DataW.TrodAll enc Tryd.prog W 0 (fun _ => true) true Tryd.f4.params.toList args.toList ds p := hA0
  rw [Tryd.params4] at hA hval
  obtain ⟨v0, vs0, d0, ds0, p0, q0, hargs, rfl, rfl, h0, r0⟩ := trodAll_cons hA
  obtain ⟨rfl, rfl, rfl⟩ := trodAll_nil r0
  obtain rfl : args = #[v0] := by cases args; simp_all
  obtain ⟨rfl, rfl⟩ := trodVars_none hV
  obtain ⟨s, rfl, rfl, rfl, ws⟩ := open_string Tryd.underlying9 (hval 0 9 v0 rfl rfl) h0
  obtain ⟨mx, hmx⟩ := cell_of_shapedOpen_int (P := Tryd.prog) (g := 3) (t := 3) (zero := #[.int .i64 0]) hsh (of_decide_eq_true (by kernel_rfl)) (by kernel_rfl) rfl (by kernel_rfl) (by kernel_rfl) Tryd.underlying3
  have hsz : 4 ≤ W.heap.size := by
    have hb : W.heap[3]? ≠ none := fun e => by simp [World.cell?, e] at hmx
    have : ¬ W.heap.size ≤ 3 := fun h => hb (Array.getElem?_eq_none_iff.2 h)
    omega
  have hgl := gl_ok W (laidPlain W hL) hmx hsz
  have hdo := parses_does (mx := mx) W ⟨0, fun _ => none, fun _ => .slice none 0 0⟩ (fun b => b < W.heap.size) (fun b => b < W.heap.size) (fun _ h => h) s.data.toList #[.string s] rfl (mem_start _ _ _) ⟨by show Value.string s = .string ⟨s.data.toList.toArray⟩; simp, trivial⟩ trivial hgl
  refine Calls.mono hdo ?_
  rintro e W' ⟨v, b, ρ', S', rfl, _, hmem, _, hv⟩
  have hv : v = .bool true := hv
  subst hv
  refine ⟨_, rfl, _, _, _, [], _, [], hW', trodAll_cons_mk (shut_bool Tryd.underlying4 _) trodAll_mk0, trodAll_cons_mk (shut_string Tryd.underlying9 ws) trodAll_mk0, rfl, keptBut_same hmem.os hmem.output hmem.fr _, fun h => by cases h⟩

/-- A world for the witness: the settled one, the tables holding what their initialisers lay. -/
noncomputable def laidWorldP (os : Os) : World :=
  { World.holding Tryd.prog os ⟨#[], #[], []⟩ with heap := ((((((World.holding Tryd.prog os ⟨#[], #[], []⟩).heap.modify 0 fun
      | .cells _ t frozen => .cells (kindL.map fun z => Value.string ⟨z.toArray⟩).toArray t frozen
      | o => o).modify 1 fun
      | .cells _ t frozen => .cells (instL.map fun z => Value.string ⟨z.toArray⟩).toArray t frozen
      | o => o).modify 2 fun
      | .cells _ t frozen => .cells (callL.map fun z => Value.string ⟨z.toArray⟩).toArray t frozen
      | o => o).modify 5 fun
      | .cells _ t frozen => .cells (match Rows.laid_unicode_utf8_first with | .agg l => (l.map fun d => match d with | .lit (.int k n) => Value.int k n | _ => undef).toArray | _ => #[]) t frozen
      | o => o).modify 6 fun
      | .cells _ t frozen => .cells #[.int .u8 128, .int .u8 191, .int .u8 160, .int .u8 191, .int .u8 128, .int .u8 159, .int .u8 144, .int .u8 191, .int .u8 128, .int .u8 143, .int .u8 0, .int .u8 0, .int .u8 0, .int .u8 0, .int .u8 0, .int .u8 0, .int .u8 0, .int .u8 0, .int .u8 0, .int .u8 0, .int .u8 0, .int .u8 0, .int .u8 0, .int .u8 0, .int .u8 0, .int .u8 0, .int .u8 0, .int .u8 0, .int .u8 0, .int .u8 0, .int .u8 0, .int .u8 0] t frozen
      | o => o) }
def wargs : Array Value := #[.string ⟨#[]⟩]
theorem laid_met (os : Os) : laidMet Tryd.prog Rows.scriptParsesRow.laid ((laidWorldP os).forCall (fun _ _ => 0) ⟨#[], wargs, []⟩).memory :=
  laidMet_of_run' 8 (by kernel_rfl) (by kernel_rfl)
theorem reads (os : Os) {H : Type} (enc : TypeId × Value → H) : ∃ places, DataW.whole enc Tryd.prog ((laidWorldP os).forCall (fun _ _ => 0) ⟨#[], wargs, []⟩).memory Tryd.f4.params.toList Rows.scriptParsesSpec.vars false wargs.toList 8 = some ([.lit (.string [])], [], places) :=
  ⟨[], by kernel_rfl⟩
set_option maxRecDepth 100000 in
theorem lifted (os : Os) (started : os.Started) (H : Type) (enc : TypeId × Value → H) (F : Stop.Interp) :
    ReturnsInHanded {} Tryd.checked os 4 .any ((OpenSpec.ofChange Rows.scriptParsesSpec).preRow enc Tryd.prog Tryd.f4 Rows.scriptParsesRow.domain false Rows.scriptParsesRow.laid) (((OpenSpec.ofChange Rows.scriptParsesSpec).at F).post enc Tryd.prog Tryd.f4 false true false false) := by
  obtain ⟨places, hx⟩ := reads os enc
  refine returnsInHanded_of_row (C := Tryd.checked) (s := OpenSpec.ofChange Rows.scriptParsesSpec) own started (by kernel_rfl) Tryd.func4
    (witness_row_at (enc := enc) (C := Tryd.checked) false (laidWorldP os) wargs rfl (by kernel_rfl) (by kernel_rfl) (by kernel_rfl)
      (OpenSpec.preRow_of_cond 8 hx (by kernel_rfl) (fun k hk => by cases hk) (by kernel_rfl) (laid_met os))) ?_
  intro W base args ds gs before hval hW _ _ _ hL hsh _
  exact parses_contract H enc W base args ds gs before hval hW hL hsh
theorem said : Rows.ScriptParsesSaid :=
  OpenClaim.holds_of_cond 4 Tryd.f4 rfl rfl rfl rfl rfl rfl rfl ⟨rfl, rfl, rfl, rfl, rfl⟩ rfl rfl rfl rfl rfl (by kernel_rfl) Tryd.func4 (by kernel_rfl)
    (of_decide_eq_true (by kernel_rfl)) (by unfold Func.isWrapper; first | (rw [if_pos (by decide +kernel)]; kernel_rfl) | (rw [if_neg (by decide +kernel)]; exact ⟨rfl, rfl⟩))
    (fun os started H enc _ F => by rw [OpenClaim.pre_eq_preRow]; exact lifted os started H enc F)
theorem plain (f : FuncId) (fn : Func) (hf : Tryd.pinned.checked.prog.funcNamed "remontoire/remontoirelaw29.ScriptParses" = some f) (hfn : Tryd.pinned.checked.prog.funcs[f]? = some fn) :
    false = Tryd.pinned.checked.prog.looks [] ∧ ∀ (j : Nat) t, fn.params[j]? = some t → Tryd.pinned.checked.prog.wantsStandIn t = false := by
  obtain rfl : f = 4 := Option.some.inj ((show Tryd.prog.funcNamed "remontoire/remontoirelaw29.ScriptParses" = some 4 by kernel_rfl).symm.trans hf) |>.symm
  obtain rfl : fn = Tryd.f4 := (Option.some.inj (Tryd.func4.symm.trans hfn)).symm
  refine ⟨by kernel_rfl, fun j t ht => ?_⟩
  rw [Tryd.params4] at ht
  have hm := Array.mem_of_getElem? ht
  simp only [List.mem_toArray, List.mem_cons, List.not_mem_nil, or_false] at hm
  subst hm
  exact (show Tryd.prog.wantsStandIn 9 = false by kernel_rfl)
theorem scriptParses_card : Rows.ScriptParsesCardSaid :=
  Claim7.holds_tied_plain_at .later [] _ _ _ _ said (fun _ h => by cases h) (by kernel_rfl) (fun _ h => by cases h) scriptParses_row_tie rfl ⟨rfl, rfl⟩ (by kernel_rfl) rfl plain (by kernel_rfl)
end Go.Proofs.YtacnlglmldplbaaDoor
