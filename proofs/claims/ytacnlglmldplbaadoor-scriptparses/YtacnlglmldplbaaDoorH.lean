/- A part of the proof of the theorem in the last text of this folder: a symbolic executor over the model, and contracts of functions. -/
import Derived.Test.YtacnlglmldplbaaDoorG
set_option linter.unusedSimpArgs false
set_option linter.unusedVariables false
namespace Go.Sx.Tryd
open Go Go.Sx
def oneOf (a : List UInt8) : Option Lin := if 1000 < a.length then none else lineOf (wordsL a)
def oneE (a : List UInt8) : Int := if 1000 < a.length then 28 else if (oneOf a).isSome then 0 else 21
def oneSpec : Spec := {
  α := List UInt8
  args a := [.c (.str a)]
  ins _ := []
  m := 0
  pre _ := True
  β := Unit
  post _ _ := True
  res a _ := .tup [.agg (linC ((oneOf a).getD lin0)), .c (.int .i64 (oneE a))]
  outs _ _ := []
  fresh := 0
  inst := fun vs => match vs with | [.c (.str s)] => some s | _ => none }
theorem words_le (s : List UInt8) : (wordsL s).length ≤ s.length + 1 ∧ ∀ i, ((wordsL s).getD i []).length ≤ s.length := by
  refine ⟨Nat.le_trans (List.length_filter_le _ _) (cutL_length 32 s), getD_len fun w hw => ?_⟩
  exact part_len 32 s w (List.mem_filter.1 hw).1
def behSpec : Spec := {
  α := Int × List Int × List (List UInt8)
  args a := [.agg [.int .i64 a.1, .ro 1 a.2.1.length (intF a.2.1), .int .u64 0, .int .i64 0, .int .i64 0, .int .i64 0, .int .i64 0, .int .i64 0, .int .i64 0, .nils, .nils], .c (.ro 1 a.2.2.length (strF a.2.2))]
  ins _ := []
  m := 0
  pre a := a.2.2.length < 4294967281 ∧ ∀ i, (a.2.2.getD i []).length < 4294967281
  β := Lin
  post a b := ∀ r, restOf a.1 a.2.2 = some r → b = ⟨a.1, a.2.1, r.word, r.call, r.order, r.tasks, r.code⟩
  res a b := .tup [.agg (linC b), .c (.bool (restOf a.1 a.2.2).isSome)]
  outs _ _ := []
  fresh := 0
  ro := [0] }
end Go.Sx.Tryd
namespace Go.Sx.Tryd
open Go Go.Sx
theorem restOf4 {l : List (List UInt8)} (hl : l ≠ []) {o : Int} (ho : ordOf (l.getD 0 []) = some o) : restOf 4 l = if l.tail.all tskOk = true then some { rest0 with order := o, tasks := l.tail.map tskAt } else none := by
  match l, hl with
  | w :: ws, _ =>
    have ho : ordOf w = some o := ho
    show (tasksOf (w :: ws)).map _ = _
    unfold tasksOf
    simp only
    rw [ho]
    simp only [List.tail_cons]
    by_cases h : ws.all tskOk = true
    · exact (congrArg (Option.map _) (if_pos h)).trans (if_pos h).symm
    · exact (congrArg (Option.map _) (if_neg h)).trans (if_neg h).symm
theorem restOf4_no {l : List (List UInt8)} (h : l.length = 0 ∨ ordOf (l.getD 0 []) = none) : restOf 4 l = none := by
  match l, h with
  | [], _ => rfl
  | w :: ws, h =>
    have ho : ordOf w = none := by
      rcases h with h | h
      · cases h
      · exact h
    show (tasksOf (w :: ws)).map _ = _
    unfold tasksOf
    simp only
    rw [ho]
    rfl
theorem getD_tail {α : Type} (l : List α) (k : Nat) (d : α) : l.getD (k + 1) d = l.tail.getD k d := by
  cases l <;> simp
theorem take_all_and {α : Type} {l : List α} {f : α → Bool} (d : α) {x : Nat} (hx : x < l.length) : (l.take (x + 1)).all f = ((l.take x).all f && f (l.getD x d)) := by
  rw [take_getD l d hx, List.all_append]
  simp
end Go.Sx.Tryd
namespace Go.Sx.Tryd
open Go Go.Sx
theorem knd_of {x : Nat} {w : List UInt8} (h0 : 0 < x) (hx : x < 18) (h : nameAt kindL x = w) : knd 18 w = x := by
  have hl : kindL.length = 18 := rfl
  rw [nameAt_in (by omega), Int.toNat_natCast] at h
  unfold knd
  rw [opIx_of_at kindL_nodup (by omega) h]
  simp [h0, hx]
theorem knd_zero {w : List UInt8} (h : ∀ x : Nat, 0 < x → x < 18 → nameAt kindL x ≠ w) : knd 18 w = 0 := by
  have hl : kindL.length = 18 := rfl
  unfold knd
  split
  · rename_i i e
    obtain ⟨h1, h2, h3⟩ := opIx_some e
    split
    · rename_i hi
      exact absurd (by rw [nameAt_in (by omega), Int.toNat_natCast]; exact h2) (h i hi.1 hi.2)
    · rfl
  · rfl
theorem manyT_of {k : Int} (h : 0 < k) : manyT k = countT k := by
  unfold manyT
  rw [if_neg (by omega)]
theorem getD_take {α : Type} (l : List α) (n i : Nat) (d : α) (h : i < n) : (l.take n).getD i d = l.getD i d := by
  rw [List.getD_eq_getElem?_getD, List.getElem?_take_of_lt h, ← List.getD_eq_getElem?_getD]
end Go.Sx.Tryd
namespace Go.Sx.Tryd
open Go Go.Sx
theorem lineOf_eq {L : List (List UInt8)} (h : 0 < L.length) {k : Int} (hk : knd 18 (L.getD 0 []) = k) : lineOf L = if k = 0 ∨ (L.tail.length : Int) < countT k then none
    else if (L.tail.take (countT k).toNat).all okW = true then
      (restOf k (L.tail.drop (countT k).toNat)).map fun r => ⟨k, (L.tail.take (countT k).toNat).map valW, r.word, r.call, r.order, r.tasks, r.code⟩
    else none := by
  subst hk
  match L, h with
  | w :: ws, _ => rfl
theorem getD_one (L : List (List UInt8)) (i : Nat) : L.getD (1 + i) [] = L.tail.getD i [] := by
  rw [Nat.add_comm]; exact getD_tail L i []
end Go.Sx.Tryd
namespace Go.Sx.Tryd
open Go Go.Sx Go.Proofs
variable {mx : Int}
set_option linter.unusedSimpArgs false
set_option maxRecDepth 20000
set_option maxHeartbeats 4000000
theorem one_does : Does Tryd.prog (glS mx) 21 (oneSpec) := by
  refine Does.of (fn := Tryd.f21) Tryd.func21 rfl ttok (spec := lookS [(9, wordsI), (35, readSpec)]) ((Known.nil.cons callee35 read_does).cons callee9 wordsI_does) (pc := fun _ => true) ((PureOk.nil.cons (s := readSpec) (k := 35) (fun _ _ => rfl)).cons (s := wordsI) (k := 9) (fun _ _ => rfl)) mixed (oneSpec) (fun _ _ _ => none) (fun _ => none) 3000 (rs := [.cell 2 44, .tmp 3]) rfl (n := 20) rfl (by decide) (by kernel_rfl) ?_
  intro (a : List UInt8) hp
  refine ⟨of_decide_eq_true (by kernel_rfl), ?_⟩
  refine vc_of (Q := bif decide ((1000 : Int) < (↑a.length : Int)) then true = true ∧ (11 : Nat) = (11 : Nat) ∧ (11 : Nat) ≤ (11 : Nat) ∧ (11 : Nat) ≤ (11 : Nat) ∧ true = true ∧ true = true ∧ true = true ∧ true = true ∧ true = true ∧ true = true ∧ true = true ∧ true = true ∧ true = true ∧ true = true ∧ true = true ∧ ∃ (b : Unit), True ∧ true = true ∧ true = true ∧ ((oneOf a).getD lin0).kind = (0 : Int) ∧ ((oneOf a).getD lin0).n.length = (0 : Nat) ∧ true = true ∧ ((oneOf a).getD lin0).word = (0 : Int) ∧ true = true ∧ ((oneOf a).getD lin0).call.op = (0 : Int) ∧ true = true ∧ ((oneOf a).getD lin0).call.a = (0 : Int) ∧ true = true ∧ ((oneOf a).getD lin0).call.b = (0 : Int) ∧ true = true ∧ ((oneOf a).getD lin0).call.c = (0 : Int) ∧ true = true ∧ ((oneOf a).getD lin0).call.d = (0 : Int) ∧ true = true ∧ ((oneOf a).getD lin0).order = (0 : Int) ∧ ((oneOf a).getD lin0).tasks.length = (0 : Nat) ∧ ((oneOf a).getD lin0).code.length = (0 : Nat) ∧ true = true ∧ oneE a = (28 : Int) ∧ True else a.length < (4294967281 : Nat) ∧ a = a ∧ true = true ∧ ∀ (b : Unit), True → ∃ (a_2 : List (List UInt8)), (a_2.length < (4294967281 : Nat) ∧ ∀ (i : Nat), (a_2.getD i []).length < (4294967281 : Nat)) ∧ (1 : Nat) = (1 : Nat) ∧ a_2.length = (wordsL a).length ∧ (∀ (i j : Nat), i < a_2.length → j < (1 : Nat) → CV.str (a_2.getD i []) = CV.str ((wordsL a).getD i [])) ∧ true = true ∧ ∀ (b : Lin), (∀ (t : Lin), lineOf a_2 = some t → b = t) → true = true ∧ (11 : Nat) = (11 : Nat) ∧ (11 : Nat) ≤ (11 : Nat) ∧ bif !(lineOf a_2).isSome then true = true ∧ (11 : Nat) = (11 : Nat) ∧ (11 : Nat) ≤ (11 : Nat) ∧ (11 : Nat) ≤ (11 : Nat) ∧ true = true ∧ true = true ∧ true = true ∧ true = true ∧ true = true ∧ true = true ∧ true = true ∧ true = true ∧ true = true ∧ true = true ∧ true = true ∧ ∃ (b : Unit), True ∧ true = true ∧ true = true ∧ ((oneOf a).getD lin0).kind = (0 : Int) ∧ ((oneOf a).getD lin0).n.length = (0 : Nat) ∧ true = true ∧ ((oneOf a).getD lin0).word = (0 : Int) ∧ true = true ∧ ((oneOf a).getD lin0).call.op = (0 : Int) ∧ true = true ∧ ((oneOf a).getD lin0).call.a = (0 : Int) ∧ true = true ∧ ((oneOf a).getD lin0).call.b = (0 : Int) ∧ true = true ∧ ((oneOf a).getD lin0).call.c = (0 : Int) ∧ true = true ∧ ((oneOf a).getD lin0).call.d = (0 : Int) ∧ true = true ∧ ((oneOf a).getD lin0).order = (0 : Int) ∧ ((oneOf a).getD lin0).tasks.length = (0 : Nat) ∧ ((oneOf a).getD lin0).code.length = (0 : Nat) ∧ true = true ∧ oneE a = (21 : Int) ∧ True else (11 : Nat) ≤ (11 : Nat) ∧ true = true ∧ true = true ∧ true = true ∧ true = true ∧ true = true ∧ true = true ∧ true = true ∧ true = true ∧ true = true ∧ true = true ∧ true = true ∧ true = true ∧ (11 : Nat) = (11 : Nat) ∧ (11 : Nat) ≤ (11 : Nat) ∧ (11 : Nat) ≤ (11 : Nat) ∧ true = true ∧ true = true ∧ true = true ∧ true = true ∧ true = true ∧ true = true ∧ true = true ∧ true = true ∧ true = true ∧ true = true ∧ true = true ∧ ∃ (b_1 : Unit), True ∧ true = true ∧ true = true ∧ ((oneOf a).getD lin0).kind = b.kind ∧ (1 : Nat) = (1 : Nat) ∧ ((oneOf a).getD lin0).n.length = b.n.length ∧ (∀ (i j : Nat), i < ((oneOf a).getD lin0).n.length → j < (1 : Nat) → CV.int IntKind.i64 (((oneOf a).getD lin0).n.getD i (0 : Int)) = CV.int IntKind.i64 (b.n.getD i (0 : Int))) ∧ true = true ∧ ((oneOf a).getD lin0).word = b.word ∧ true = true ∧ ((oneOf a).getD lin0).call.op = b.call.op ∧ true = true ∧ ((oneOf a).getD lin0).call.a = b.call.a ∧ true = true ∧ ((oneOf a).getD lin0).call.b = b.call.b ∧ true = true ∧ ((oneOf a).getD lin0).call.c = b.call.c ∧ true = true ∧ ((oneOf a).getD lin0).call.d = b.call.d ∧ true = true ∧ ((oneOf a).getD lin0).order = b.order ∧ (5 : Nat) = (5 : Nat) ∧ ((oneOf a).getD lin0).tasks.length = b.tasks.length ∧ (∀ (i j : Nat), i < ((oneOf a).getD lin0).tasks.length → j < (5 : Nat) → tabE tsk0 tskC ((oneOf a).getD lin0).tasks i j = tabE tsk0 tskC b.tasks i j) ∧ (5 : Nat) = (5 : Nat) ∧ ((oneOf a).getD lin0).code.length = b.code.length ∧ (∀ (i j : Nat), i < ((oneOf a).getD lin0).code.length → j < (5 : Nat) → tabE ins0 insC ((oneOf a).getD lin0).code i j = tabE ins0 insC b.code i j) ∧ true = true ∧ oneE a = (0 : Int) ∧ True) (by kernel_rfl) ?_
  try simp only [condP, eq_self, true_and, and_true, and_self, cond_or, cond_and, decide_true, decide_false, imp_self, implies_true, forall_const, exists_const, exists_prop, decide_eq_true_eq, decide_eq_false_iff_not, Bool.and_eq_true, Bool.or_eq_true, Bool.not_eq_true', Bool.not_eq_false', Bool.or_eq_false_iff, Bool.and_eq_false_imp, tdiv_u64, tmod_u64, Int.toNat_natCast, Int.toNat_zero, Int.reduceToNat, Int.reduceAdd, Int.reduceMod, Int.reduceSub, Int.reduceMul, Int.reduceNeg, Int.reduceLT, Int.reduceLE, Int.cast_ofNat_Int, Nat.reduceLT, Nat.reduceLeDiff, Nat.reduceEqDiff, Nat.reduceAdd, Nat.reduceMul, Nat.reduceSub, Nat.reducePow, Nat.le_refl, Int.le_refl, Nat.zero_add, Nat.add_zero, Nat.mul_one, Nat.zero_le, Bool.false_eq_true, Bool.true_eq_false, reduceCtorEq, not_false_eq_true, not_true_eq_false, false_implies, true_implies, Nat.lt_irrefl, Int.lt_irrefl, UInt8.reduceOfNat, UInt8.reduceToNat]
  have hlong : 1000 < a.length → oneOf a = none ∧ oneE a = 28 := fun h => ⟨if_pos h, if_pos h⟩
  have hshort : ¬ 1000 < a.length → oneOf a = lineOf (wordsL a) := fun h => if_neg h
  have hE : ¬ 1000 < a.length → oneE a = if (oneOf a).isSome then 0 else 21 := fun h => if_neg h
  by_cases hl : 1000 < a.length
  · obtain ⟨h1, h2⟩ := hlong hl
    have hl' : 1000 < (a.length : Int) := by omega
    simp only [h1, h2, hl', not_true_eq_false, true_implies, false_implies, and_true]
    exact ⟨rfl, rfl, rfl, rfl, rfl, rfl, rfl, rfl, rfl, rfl, rfl⟩
  · have hw := words_le a
    have hl' : ¬ 1000 < (a.length : Int) := by omega
    refine ⟨fun h => absurd h hl', fun _ => ?_⟩
    (repeat' (first | (apply And.intro) | (intro _))) <;> (try simp (disch := omega) only [w64, wu64, wu8, Int.toNat_natCast, toNat_add_one, toNat_one_add] at *) <;> (try (first | (with_reducible rfl) | (with_reducible assumption) | exact True.intro | omega))
    refine ⟨wordsL a, ⟨by omega, fun i => by have := hw.2 i; omega⟩, rfl, fun _ _ _ _ => rfl, fun b hb => ⟨fun h => ?_, fun h => ?_⟩⟩
    · cases e : lineOf (wordsL a) with
      | none =>
        rw [hE hl, hshort hl, e]
        exact ⟨rfl, rfl, rfl, rfl, rfl, rfl, rfl, rfl, rfl, rfl, rfl, rfl⟩
      | some t => rw [e] at h; cases h
    · cases e : lineOf (wordsL a) with
      | none => rw [e] at h; cases h
      | some t =>
        have := hb t e
        subst this
        rw [hE hl, hshort hl, e]
        exact ⟨rfl, rfl, fun _ _ _ _ => rfl, rfl, rfl, rfl, rfl, rfl, rfl, rfl, rfl, fun _ _ _ _ => rfl, rfl, fun _ _ _ _ => rfl, rfl⟩
def behInv (a : Int × List Int × List (List UInt8)) : Nat → Option Inv := fun id =>
  bif id == 10 then some { α := Nat × Bool × List Tsk, keep := [1, 2, 4], drop := [0], env := fun _ x => [(7, .r (.c (.int .i64 (x.1 + 1)))), (6, .r (.c (.bool x.2.1)))], chunks := fun b x => [(0, .cells 52 [.int .i64 a.1, .ro 1 a.2.1.length (intF a.2.1), .int .u64 0, .int .i64 0, .int .i64 0, .int .i64 0, .int .i64 0, .int .i64 0, .int .i64 ((ordOf (a.2.2.getD 0 [])).getD 0), .osl b, .nils]), (b, .row 58 5 x.1 (tabE tsk0 tskC x.2.2))], fresh := 1, pre := fun x => x.1 ≤ a.2.2.tail.length ∧ x.2.1 = (a.2.2.tail.take x.1).all tskOk ∧ x.2.2.length = x.1 ∧ (x.2.1 = true → x.2.2 = (a.2.2.tail.take x.1).map tskAt), μ := fun x => a.2.2.tail.length - x.1 } else
  bif id == 17 then some { α := Nat × Bool × List Ins, keep := [1, 2, 4], drop := [0], env := fun _ x => [(10, .r (.c (.int .i64 x.1))), (6, .r (.c (.bool x.2.1)))], chunks := fun b x => [(0, .cells 52 [.int .i64 a.1, .ro 1 a.2.1.length (intF a.2.1), .int .u64 0, .int .i64 0, .int .i64 0, .int .i64 0, .int .i64 0, .int .i64 0, .int .i64 0, .nils, .osl b]), (b, .row 78 5 x.1 (tabE ins0 insC x.2.2))], fresh := 1, pre := fun x => x.1 ≤ a.2.2.length ∧ x.2.1 = (a.2.2.take x.1).all insOk ∧ x.2.2.length = x.1 ∧ (x.2.1 = true → x.2.2 = (a.2.2.take x.1).map insAt), μ := fun x => a.2.2.length - x.1 } else none
theorem beh_does : Does Tryd.prog (glS mx) 39 (behSpec) := by
  refine Does.of (fn := Tryd.f39) Tryd.func39 rfl ttok (spec := lookS [(65, taskSpec), (66, instSpec), (67, rcallSpec), (8, numI)]) ((((Known.nil.cons callee8 rnumI_does).cons callee67 rcall_does).cons callee66 rinst_does).cons callee65 rtask_does) (pc := fun _ => true) ((((PureOk.nil.cons (s := numI) (k := 8) (fun _ _ => rfl)).cons (s := rcallSpec) (k := 67) (fun _ _ => rfl)).cons (s := instSpec) (k := 66) (fun _ _ => rfl)).cons (s := taskSpec) (k := 65) (fun _ _ => rfl)) mixed (behSpec) (fun a id _ => behInv a id) (fun _ => none) 3000 (rs := [.cell 4 52, .tmp 5]) rfl (n := 115) rfl (by decide) (by kernel_rfl) ?_
  intro (a : Int × List Int × List (List UInt8)) hp
  refine ⟨of_decide_eq_true (by kernel_rfl), ?_⟩
  refine vc_of (Q := (1 : Nat) ≤ (11 : Nat) ∧ true = true ∧ bif decide (a.fst = (4 : Int)) then ((!decide ((↑a.snd.snd.length : Int) = (0 : Int))) = true → (!decide ((↑a.snd.snd.length : Int) = (0 : Int))) = true) ∧ ((!decide ((↑a.snd.snd.length : Int) = (0 : Int))) = true → (0 : Int) ≤ (0 : Int) ∧ (0 : Int) < (↑a.snd.snd.length : Int)) ∧ ((!decide ((↑a.snd.snd.length : Int) = (0 : Int))) = true → (!decide ((↑a.snd.snd.length : Int) = (0 : Int))) = true) ∧ ((!decide ((↑a.snd.snd.length : Int) = (0 : Int))) = true → (0 : Nat) < a.snd.snd.length) ∧ (1 : Nat) ≤ (1 : Nat) ∧ true = true ∧ ((!decide ((↑a.snd.snd.length : Int) = (0 : Int))) = true → (!decide ((↑a.snd.snd.length : Int) = (0 : Int))) = true) ∧ ((!decide ((↑a.snd.snd.length : Int) = (0 : Int))) = true → (!decide ((↑a.snd.snd.length : Int) = (0 : Int))) = true) ∧ ((!decide ((↑a.snd.snd.length : Int) = (0 : Int)) && !decide (a.snd.snd.getD (0 : Nat) [] = [(101 : UInt8), (100 : UInt8), (102 : UInt8)])) = true → (!decide ((↑a.snd.snd.length : Int) = (0 : Int)) && !decide (a.snd.snd.getD (0 : Nat) [] = [(101 : UInt8), (100 : UInt8), (102 : UInt8)])) = true) ∧ ((!decide ((↑a.snd.snd.length : Int) = (0 : Int)) && !decide (a.snd.snd.getD (0 : Nat) [] = [(101 : UInt8), (100 : UInt8), (102 : UInt8)])) = true → (0 : Int) ≤ (0 : Int) ∧ (0 : Int) < (↑a.snd.snd.length : Int)) ∧ ((!decide ((↑a.snd.snd.length : Int) = (0 : Int)) && !decide (a.snd.snd.getD (0 : Nat) [] = [(101 : UInt8), (100 : UInt8), (102 : UInt8)])) = true → (!decide ((↑a.snd.snd.length : Int) = (0 : Int)) && !decide (a.snd.snd.getD (0 : Nat) [] = [(101 : UInt8), (100 : UInt8), (102 : UInt8)])) = true) ∧ ((!decide ((↑a.snd.snd.length : Int) = (0 : Int)) && !decide (a.snd.snd.getD (0 : Nat) [] = [(101 : UInt8), (100 : UInt8), (102 : UInt8)])) = true → (0 : Nat) < a.snd.snd.length) ∧ (1 : Nat) ≤ (1 : Nat) ∧ true = true ∧ ((!decide ((↑a.snd.snd.length : Int) = (0 : Int)) && !decide (a.snd.snd.getD (0 : Nat) [] = [(101 : UInt8), (100 : UInt8), (102 : UInt8)])) = true → (!decide ((↑a.snd.snd.length : Int) = (0 : Int)) && !decide (a.snd.snd.getD (0 : Nat) [] = [(101 : UInt8), (100 : UInt8), (102 : UInt8)])) = true) ∧ ((!decide ((↑a.snd.snd.length : Int) = (0 : Int))) = true → (!decide ((↑a.snd.snd.length : Int) = (0 : Int))) = true) ∧ ((!decide ((↑a.snd.snd.length : Int) = (0 : Int))) = true → (!decide (a.snd.snd.getD (0 : Nat) [] = [(101 : UInt8), (100 : UInt8), (102 : UInt8)])) = true → (!decide ((↑a.snd.snd.length : Int) = (0 : Int)) && !decide (a.snd.snd.getD (0 : Nat) [] = [(101 : UInt8), (100 : UInt8), (102 : UInt8)])) = true) ∧ (decide ((↑a.snd.snd.length : Int) = (0 : Int)) = false → (!decide ((↑a.snd.snd.length : Int) = (0 : Int))) = true) ∧ bif bif decide ((↑a.snd.snd.length : Int) = (0 : Int)) then true else bif !decide (a.snd.snd.getD (0 : Nat) [] = [(101 : UInt8), (100 : UInt8), (102 : UInt8)]) then !decide (a.snd.snd.getD (0 : Nat) [] = [(114 : UInt8), (109 : UInt8)]) else false then (11 : Nat) ≤ (11 : Nat) ∧ true = true ∧ true = true ∧ true = true ∧ true = true ∧ true = true ∧ true = true ∧ true = true ∧ true = true ∧ true = true ∧ true = true ∧ true = true ∧ true = true ∧ (11 : Nat) = (11 : Nat) ∧ (11 : Nat) ≤ (11 : Nat) ∧ (11 : Nat) ≤ (11 : Nat) ∧ true = true ∧ true = true ∧ true = true ∧ true = true ∧ true = true ∧ true = true ∧ true = true ∧ true = true ∧ true = true ∧ true = true ∧ true = true ∧ ∃ (b : Lin), (∀ (r : RestB), restOf a.fst a.snd.snd = some r → b = { kind := a.fst, n := a.snd.fst, word := r.word, call := r.call, order := r.order, tasks := r.tasks, code := r.code }) ∧ true = true ∧ true = true ∧ b.kind = a.fst ∧ (1 : Nat) = (1 : Nat) ∧ b.n.length = a.snd.fst.length ∧ (∀ (i j : Nat), i < b.n.length → j < (1 : Nat) → CV.int IntKind.i64 (b.n.getD i (0 : Int)) = CV.int IntKind.i64 (a.snd.fst.getD i (0 : Int))) ∧ true = true ∧ b.word = (0 : Int) ∧ true = true ∧ b.call.op = (0 : Int) ∧ true = true ∧ b.call.a = (0 : Int) ∧ true = true ∧ b.call.b = (0 : Int) ∧ true = true ∧ b.call.c = (0 : Int) ∧ true = true ∧ b.call.d = (0 : Int) ∧ true = true ∧ b.order = (0 : Int) ∧ b.tasks.length = (0 : Nat) ∧ b.code.length = (0 : Nat) ∧ (restOf a.fst a.snd.snd).isSome = false ∧ True else ((0 : Int) ≤ (0 : Int) ∧ (0 : Int) < (↑a.snd.snd.length : Int)) ∧ (0 : Nat) < a.snd.snd.length ∧ (1 : Nat) ≤ (1 : Nat) ∧ true = true ∧ bif decide (a.snd.snd.getD (0 : Nat) [] = [(114 : UInt8), (109 : UInt8)]) then true = true ∧ (1 : Nat) = (1 : Nat) ∧ (9 : Nat) ≤ (11 : Nat) ∧ (∃ (x : Nat × Bool × List Tsk), (x.fst ≤ a.snd.snd.tail.length ∧ x.snd.fst = (List.take x.fst a.snd.snd.tail).all tskOk ∧ x.snd.snd.length = x.fst ∧ (x.snd.fst = true → x.snd.snd = List.map tskAt (List.take x.fst a.snd.snd.tail))) ∧ true = true ∧ true = true ∧ (↑x.fst : Int) + (1 : Int) = (1 : Int) ∧ x.snd.fst = true ∧ (1 : Nat) = (1 : Nat) ∧ a.snd.snd.length = a.snd.snd.length ∧ (∀ (i j : Nat), i < a.snd.snd.length → j < (1 : Nat) → CV.str (a.snd.snd.getD i []) = CV.str (a.snd.snd.getD i [])) ∧ (0 : Nat) < (3 : Nat) ∧ some (0 : Nat) = some (0 : Nat) ∧ (0 : Nat) = (0 : Nat) ∧ (1 : Nat) < (3 : Nat) ∧ some (1 : Nat) = some (1 : Nat) ∧ (0 : Nat) = (0 : Nat) ∧ (0 : Nat) < (3 : Nat) ∧ (52 : TypeId) = (52 : Nat) ∧ true = true ∧ a.fst = a.fst ∧ (1 : Nat) = (1 : Nat) ∧ a.snd.fst.length = a.snd.fst.length ∧ (∀ (i j : Nat), i < a.snd.fst.length → j < (1 : Nat) → CV.int IntKind.i64 (a.snd.fst.getD i (0 : Int)) = CV.int IntKind.i64 (a.snd.fst.getD i (0 : Int))) ∧ true = true ∧ (0 : Int) = (0 : Int) ∧ true = true ∧ (0 : Int) = (0 : Int) ∧ true = true ∧ (0 : Int) = (0 : Int) ∧ true = true ∧ (0 : Int) = (0 : Int) ∧ true = true ∧ (0 : Int) = (0 : Int) ∧ true = true ∧ (0 : Int) = (0 : Int) ∧ true = true ∧ (ordOf (a.snd.snd.getD (0 : Nat) [])).getD (0 : Int) = (1 : Int) ∧ (2 : Nat) < (3 : Nat) ∧ (none : Option Nat) = none ∧ (2 : Nat) < (3 : Nat) ∧ x.fst = (0 : Nat) ∧ (1 : Nat) < (3 : Nat) ∧ (52 : Nat) = (52 : Nat) ∧ true = true ∧ (0 : Int) = (0 : Int) ∧ true = true ∧ (0 : Int) = (0 : Int) ∧ true = true ∧ (0 : Int) = (0 : Int) ∧ true = true ∧ (0 : Int) = (0 : Int) ∧ true = true ∧ (0 : Int) = (0 : Int) ∧ true = true ∧ (0 : Int) = (0 : Int) ∧ true = true ∧ (0 : Int) = (0 : Int) ∧ true = true ∧ (0 : Int) = (0 : Int) ∧ True) ∧ ∀ (x : Nat × Bool × List Tsk), x.fst ≤ a.snd.snd.tail.length ∧ x.snd.fst = (List.take x.fst a.snd.snd.tail).all tskOk ∧ x.snd.snd.length = x.fst ∧ (x.snd.fst = true → x.snd.snd = List.map tskAt (List.take x.fst a.snd.snd.tail)) → bif decide ((↑x.fst : Int) + (1 : Int) < (↑a.snd.snd.length : Int)) then ((0 : Int) ≤ (↑x.fst : Int) + (1 : Int) ∧ (↑x.fst : Int) + (1 : Int) < (↑a.snd.snd.length : Int)) ∧ ((↑x.fst : Int) + (1 : Int)).toNat < a.snd.snd.length ∧ (1 : Nat) ≤ (1 : Nat) ∧ true = true ∧ (a.snd.snd.getD ((↑x.fst : Int) + (1 : Int)).toNat []).length < (4294967281 : Nat) ∧ a.snd.snd.getD ((↑x.fst : Int) + (1 : Int)).toNat [] = a.snd.snd.getD ((↑x.fst : Int) + (1 : Int)).toNat [] ∧ true = true ∧ ∀ (b : Tsk), (∀ (t : Tsk), taskOf (a.snd.snd.getD ((↑x.fst : Int) + (1 : Int)).toNat []) = some t → b = t) → true = true ∧ (5 : Nat) = (5 : Nat) ∧ (5 : Nat) ≤ (5 : Nat) ∧ (x.snd.fst = true → x.snd.fst = true) ∧ (10 : Nat) ≤ (11 : Nat) ∧ true = true ∧ (5 : Nat) ≤ (5 : Nat) ∧ true = true ∧ true = true ∧ true = true ∧ true = true ∧ true = true ∧ (5 : Nat) ≤ (16777216 : Nat) ∧ (0 : Nat) < (5 : Nat) ∧ true = true ∧ true = true ∧ true = true ∧ true = true ∧ true = true ∧ x.fst + (1 : Nat) ≤ (9223372036854775807 : Nat) ∧ (x.fst + (1 : Nat)) * (56 : Nat) ≤ (140737488355328 : Nat) ∧ (0 : Nat) < (1 : Nat) ∧ (0 : Nat) < (5 : Nat) ∧ true = true ∧ (1 : Nat) = (1 : Nat) ∧ (10 : Nat) ≤ (11 : Nat) ∧ ∃ (x' : Nat × Bool × List Tsk), (x'.fst ≤ a.snd.snd.tail.length ∧ x'.snd.fst = (List.take x'.fst a.snd.snd.tail).all tskOk ∧ x'.snd.snd.length = x'.fst ∧ (x'.snd.fst = true → x'.snd.snd = List.map tskAt (List.take x'.fst a.snd.snd.tail))) ∧ a.snd.snd.tail.length - x'.fst < a.snd.snd.tail.length - x.fst ∧ true = true ∧ true = true ∧ (↑x'.fst : Int) + (1 : Int) = IntKind.i64.wrap ((↑x.fst : Int) + (1 : Int) + (1 : Int)) ∧ (x'.snd.fst = bif x.snd.fst then (taskOf (a.snd.snd.getD ((↑x.fst : Int) + (1 : Int)).toNat [])).isSome else false) ∧ (1 : Nat) = (1 : Nat) ∧ a.snd.snd.length = a.snd.snd.length ∧ (∀ (i j : Nat), i < a.snd.snd.length → j < (1 : Nat) → CV.str (a.snd.snd.getD i []) = CV.str (a.snd.snd.getD i [])) ∧ (0 : Nat) < (3 : Nat) ∧ some (0 : Nat) = some (0 : Nat) ∧ (0 : Nat) = (0 : Nat) ∧ (1 : Nat) < (3 : Nat) ∧ some (1 : Nat) = some (1 : Nat) ∧ (0 : Nat) = (0 : Nat) ∧ (0 : Nat) < (3 : Nat) ∧ (52 : TypeId) = (52 : TypeId) ∧ true = true ∧ a.fst = a.fst ∧ (1 : Nat) = (1 : Nat) ∧ a.snd.fst.length = a.snd.fst.length ∧ (∀ (i j : Nat), i < a.snd.fst.length → j < (1 : Nat) → CV.int IntKind.i64 (a.snd.fst.getD i (0 : Int)) = CV.int IntKind.i64 (a.snd.fst.getD i (0 : Int))) ∧ true = true ∧ (0 : Int) = (0 : Int) ∧ true = true ∧ (0 : Int) = (0 : Int) ∧ true = true ∧ (0 : Int) = (0 : Int) ∧ true = true ∧ (0 : Int) = (0 : Int) ∧ true = true ∧ (0 : Int) = (0 : Int) ∧ true = true ∧ (0 : Int) = (0 : Int) ∧ true = true ∧ (ordOf (a.snd.snd.getD (0 : Nat) [])).getD (0 : Int) = (ordOf (a.snd.snd.getD (0 : Nat) [])).getD (0 : Int) ∧ (2 : Nat) < (3 : Nat) ∧ some (5 : Nat) = some (5 : Nat) ∧ (2 : Nat) < (3 : Nat) ∧ (58 : TypeId) = (58 : Nat) ∧ (5 : Nat) = (5 : Nat) ∧ x'.fst = x.fst + (1 : Nat) ∧ (∀ (i j : Nat), i < x'.fst → j < (5 : Nat) → tabE tsk0 tskC x'.snd.snd i j = if i < x.fst then tabE tsk0 tskC x.snd.snd i j else nth [CV.int IntKind.i64 b.cost, CV.int IntKind.i64 b.period, CV.int IntKind.i64 b.dead, CV.ro (3 : Nat) b.secs.length (tabE sec0 secC b.secs), CV.int IntKind.i64 b.pol] j) ∧ (1 : Nat) < (3 : Nat) ∧ (52 : Nat) = (52 : Nat) ∧ true = true ∧ (0 : Int) = (0 : Int) ∧ true = true ∧ (0 : Int) = (0 : Int) ∧ true = true ∧ (0 : Int) = (0 : Int) ∧ true = true ∧ (0 : Int) = (0 : Int) ∧ true = true ∧ (0 : Int) = (0 : Int) ∧ true = true ∧ (0 : Int) = (0 : Int) ∧ true = true ∧ (0 : Int) = (0 : Int) ∧ true = true ∧ (0 : Int) = (0 : Int) ∧ True else (11 : Nat) ≤ (11 : Nat) ∧ true = true ∧ true = true ∧ true = true ∧ true = true ∧ true = true ∧ true = true ∧ true = true ∧ true = true ∧ true = true ∧ true = true ∧ true = true ∧ true = true ∧ (11 : Nat) = (11 : Nat) ∧ (11 : Nat) ≤ (11 : Nat) ∧ (11 : Nat) ≤ (11 : Nat) ∧ true = true ∧ true = true ∧ true = true ∧ true = true ∧ true = true ∧ true = true ∧ true = true ∧ true = true ∧ true = true ∧ true = true ∧ true = true ∧ ∃ (b : Lin), (∀ (r : RestB), restOf a.fst a.snd.snd = some r → b = { kind := a.fst, n := a.snd.fst, word := r.word, call := r.call, order := r.order, tasks := r.tasks, code := r.code }) ∧ true = true ∧ true = true ∧ b.kind = a.fst ∧ (1 : Nat) = (1 : Nat) ∧ b.n.length = a.snd.fst.length ∧ (∀ (i j : Nat), i < b.n.length → j < (1 : Nat) → CV.int IntKind.i64 (b.n.getD i (0 : Int)) = CV.int IntKind.i64 (a.snd.fst.getD i (0 : Int))) ∧ true = true ∧ b.word = (0 : Int) ∧ true = true ∧ b.call.op = (0 : Int) ∧ true = true ∧ b.call.a = (0 : Int) ∧ true = true ∧ b.call.b = (0 : Int) ∧ true = true ∧ b.call.c = (0 : Int) ∧ true = true ∧ b.call.d = (0 : Int) ∧ true = true ∧ b.order = (ordOf (a.snd.snd.getD (0 : Nat) [])).getD (0 : Int) ∧ (5 : Nat) = (5 : Nat) ∧ b.tasks.length = x.fst ∧ (∀ (i j : Nat), i < b.tasks.length → j < (5 : Nat) → tabE tsk0 tskC b.tasks i j = tabE tsk0 tskC x.snd.snd i j) ∧ b.code.length = (0 : Nat) ∧ (restOf a.fst a.snd.snd).isSome = x.snd.fst ∧ True else (∃ (x : Nat × Bool × List Tsk), (x.fst ≤ a.snd.snd.tail.length ∧ x.snd.fst = (List.take x.fst a.snd.snd.tail).all tskOk ∧ x.snd.snd.length = x.fst ∧ (x.snd.fst = true → x.snd.snd = List.map tskAt (List.take x.fst a.snd.snd.tail))) ∧ true = true ∧ true = true ∧ (↑x.fst : Int) + (1 : Int) = (1 : Int) ∧ x.snd.fst = true ∧ (1 : Nat) = (1 : Nat) ∧ a.snd.snd.length = a.snd.snd.length ∧ (∀ (i j : Nat), i < a.snd.snd.length → j < (1 : Nat) → CV.str (a.snd.snd.getD i []) = CV.str (a.snd.snd.getD i [])) ∧ (0 : Nat) < (3 : Nat) ∧ some (0 : Nat) = some (0 : Nat) ∧ (0 : Nat) = (0 : Nat) ∧ (1 : Nat) < (3 : Nat) ∧ some (1 : Nat) = some (1 : Nat) ∧ (0 : Nat) = (0 : Nat) ∧ (0 : Nat) < (3 : Nat) ∧ (52 : TypeId) = (52 : Nat) ∧ true = true ∧ a.fst = a.fst ∧ (1 : Nat) = (1 : Nat) ∧ a.snd.fst.length = a.snd.fst.length ∧ (∀ (i j : Nat), i < a.snd.fst.length → j < (1 : Nat) → CV.int IntKind.i64 (a.snd.fst.getD i (0 : Int)) = CV.int IntKind.i64 (a.snd.fst.getD i (0 : Int))) ∧ true = true ∧ (0 : Int) = (0 : Int) ∧ true = true ∧ (0 : Int) = (0 : Int) ∧ true = true ∧ (0 : Int) = (0 : Int) ∧ true = true ∧ (0 : Int) = (0 : Int) ∧ true = true ∧ (0 : Int) = (0 : Int) ∧ true = true ∧ (0 : Int) = (0 : Int) ∧ true = true ∧ (ordOf (a.snd.snd.getD (0 : Nat) [])).getD (0 : Int) = (0 : Int) ∧ (2 : Nat) < (3 : Nat) ∧ (none : Option Nat) = none ∧ (2 : Nat) < (3 : Nat) ∧ x.fst = (0 : Nat) ∧ (1 : Nat) < (3 : Nat) ∧ (52 : Nat) = (52 : Nat) ∧ true = true ∧ (0 : Int) = (0 : Int) ∧ true = true ∧ (0 : Int) = (0 : Int) ∧ true = true ∧ (0 : Int) = (0 : Int) ∧ true = true ∧ (0 : Int) = (0 : Int) ∧ true = true ∧ (0 : Int) = (0 : Int) ∧ true = true ∧ (0 : Int) = (0 : Int) ∧ true = true ∧ (0 : Int) = (0 : Int) ∧ true = true ∧ (0 : Int) = (0 : Int) ∧ True) ∧ ∀ (x : Nat × Bool × List Tsk), x.fst ≤ a.snd.snd.tail.length ∧ x.snd.fst = (List.take x.fst a.snd.snd.tail).all tskOk ∧ x.snd.snd.length = x.fst ∧ (x.snd.fst = true → x.snd.snd = List.map tskAt (List.take x.fst a.snd.snd.tail)) → bif decide ((↑x.fst : Int) + (1 : Int) < (↑a.snd.snd.length : Int)) then ((0 : Int) ≤ (↑x.fst : Int) + (1 : Int) ∧ (↑x.fst : Int) + (1 : Int) < (↑a.snd.snd.length : Int)) ∧ ((↑x.fst : Int) + (1 : Int)).toNat < a.snd.snd.length ∧ (1 : Nat) ≤ (1 : Nat) ∧ true = true ∧ (a.snd.snd.getD ((↑x.fst : Int) + (1 : Int)).toNat []).length < (4294967281 : Nat) ∧ a.snd.snd.getD ((↑x.fst : Int) + (1 : Int)).toNat [] = a.snd.snd.getD ((↑x.fst : Int) + (1 : Int)).toNat [] ∧ true = true ∧ ∀ (b : Tsk), (∀ (t : Tsk), taskOf (a.snd.snd.getD ((↑x.fst : Int) + (1 : Int)).toNat []) = some t → b = t) → true = true ∧ (5 : Nat) = (5 : Nat) ∧ (5 : Nat) ≤ (5 : Nat) ∧ (x.snd.fst = true → x.snd.fst = true) ∧ (10 : Nat) ≤ (11 : Nat) ∧ true = true ∧ (5 : Nat) ≤ (5 : Nat) ∧ true = true ∧ true = true ∧ true = true ∧ true = true ∧ true = true ∧ (5 : Nat) ≤ (16777216 : Nat) ∧ (0 : Nat) < (5 : Nat) ∧ true = true ∧ true = true ∧ true = true ∧ true = true ∧ true = true ∧ x.fst + (1 : Nat) ≤ (9223372036854775807 : Nat) ∧ (x.fst + (1 : Nat)) * (56 : Nat) ≤ (140737488355328 : Nat) ∧ (0 : Nat) < (1 : Nat) ∧ (0 : Nat) < (5 : Nat) ∧ true = true ∧ (1 : Nat) = (1 : Nat) ∧ (10 : Nat) ≤ (11 : Nat) ∧ ∃ (x' : Nat × Bool × List Tsk), (x'.fst ≤ a.snd.snd.tail.length ∧ x'.snd.fst = (List.take x'.fst a.snd.snd.tail).all tskOk ∧ x'.snd.snd.length = x'.fst ∧ (x'.snd.fst = true → x'.snd.snd = List.map tskAt (List.take x'.fst a.snd.snd.tail))) ∧ a.snd.snd.tail.length - x'.fst < a.snd.snd.tail.length - x.fst ∧ true = true ∧ true = true ∧ (↑x'.fst : Int) + (1 : Int) = IntKind.i64.wrap ((↑x.fst : Int) + (1 : Int) + (1 : Int)) ∧ (x'.snd.fst = bif x.snd.fst then (taskOf (a.snd.snd.getD ((↑x.fst : Int) + (1 : Int)).toNat [])).isSome else false) ∧ (1 : Nat) = (1 : Nat) ∧ a.snd.snd.length = a.snd.snd.length ∧ (∀ (i j : Nat), i < a.snd.snd.length → j < (1 : Nat) → CV.str (a.snd.snd.getD i []) = CV.str (a.snd.snd.getD i [])) ∧ (0 : Nat) < (3 : Nat) ∧ some (0 : Nat) = some (0 : Nat) ∧ (0 : Nat) = (0 : Nat) ∧ (1 : Nat) < (3 : Nat) ∧ some (1 : Nat) = some (1 : Nat) ∧ (0 : Nat) = (0 : Nat) ∧ (0 : Nat) < (3 : Nat) ∧ (52 : TypeId) = (52 : TypeId) ∧ true = true ∧ a.fst = a.fst ∧ (1 : Nat) = (1 : Nat) ∧ a.snd.fst.length = a.snd.fst.length ∧ (∀ (i j : Nat), i < a.snd.fst.length → j < (1 : Nat) → CV.int IntKind.i64 (a.snd.fst.getD i (0 : Int)) = CV.int IntKind.i64 (a.snd.fst.getD i (0 : Int))) ∧ true = true ∧ (0 : Int) = (0 : Int) ∧ true = true ∧ (0 : Int) = (0 : Int) ∧ true = true ∧ (0 : Int) = (0 : Int) ∧ true = true ∧ (0 : Int) = (0 : Int) ∧ true = true ∧ (0 : Int) = (0 : Int) ∧ true = true ∧ (0 : Int) = (0 : Int) ∧ true = true ∧ (ordOf (a.snd.snd.getD (0 : Nat) [])).getD (0 : Int) = (ordOf (a.snd.snd.getD (0 : Nat) [])).getD (0 : Int) ∧ (2 : Nat) < (3 : Nat) ∧ some (5 : Nat) = some (5 : Nat) ∧ (2 : Nat) < (3 : Nat) ∧ (58 : TypeId) = (58 : Nat) ∧ (5 : Nat) = (5 : Nat) ∧ x'.fst = x.fst + (1 : Nat) ∧ (∀ (i j : Nat), i < x'.fst → j < (5 : Nat) → tabE tsk0 tskC x'.snd.snd i j = if i < x.fst then tabE tsk0 tskC x.snd.snd i j else nth [CV.int IntKind.i64 b.cost, CV.int IntKind.i64 b.period, CV.int IntKind.i64 b.dead, CV.ro (3 : Nat) b.secs.length (tabE sec0 secC b.secs), CV.int IntKind.i64 b.pol] j) ∧ (1 : Nat) < (3 : Nat) ∧ (52 : Nat) = (52 : Nat) ∧ true = true ∧ (0 : Int) = (0 : Int) ∧ true = true ∧ (0 : Int) = (0 : Int) ∧ true = true ∧ (0 : Int) = (0 : Int) ∧ true = true ∧ (0 : Int) = (0 : Int) ∧ true = true ∧ (0 : Int) = (0 : Int) ∧ true = true ∧ (0 : Int) = (0 : Int) ∧ true = true ∧ (0 : Int) = (0 : Int) ∧ true = true ∧ (0 : Int) = (0 : Int) ∧ True else (11 : Nat) ≤ (11 : Nat) ∧ true = true ∧ true = true ∧ true = true ∧ true = true ∧ true = true ∧ true = true ∧ true = true ∧ true = true ∧ true = true ∧ true = true ∧ true = true ∧ true = true ∧ (11 : Nat) = (11 : Nat) ∧ (11 : Nat) ≤ (11 : Nat) ∧ (11 : Nat) ≤ (11 : Nat) ∧ true = true ∧ true = true ∧ true = true ∧ true = true ∧ true = true ∧ true = true ∧ true = true ∧ true = true ∧ true = true ∧ true = true ∧ true = true ∧ ∃ (b : Lin), (∀ (r : RestB), restOf a.fst a.snd.snd = some r → b = { kind := a.fst, n := a.snd.fst, word := r.word, call := r.call, order := r.order, tasks := r.tasks, code := r.code }) ∧ true = true ∧ true = true ∧ b.kind = a.fst ∧ (1 : Nat) = (1 : Nat) ∧ b.n.length = a.snd.fst.length ∧ (∀ (i j : Nat), i < b.n.length → j < (1 : Nat) → CV.int IntKind.i64 (b.n.getD i (0 : Int)) = CV.int IntKind.i64 (a.snd.fst.getD i (0 : Int))) ∧ true = true ∧ b.word = (0 : Int) ∧ true = true ∧ b.call.op = (0 : Int) ∧ true = true ∧ b.call.a = (0 : Int) ∧ true = true ∧ b.call.b = (0 : Int) ∧ true = true ∧ b.call.c = (0 : Int) ∧ true = true ∧ b.call.d = (0 : Int) ∧ true = true ∧ b.order = (ordOf (a.snd.snd.getD (0 : Nat) [])).getD (0 : Int) ∧ (5 : Nat) = (5 : Nat) ∧ b.tasks.length = x.fst ∧ (∀ (i j : Nat), i < b.tasks.length → j < (5 : Nat) → tabE tsk0 tskC b.tasks i j = tabE tsk0 tskC x.snd.snd i j) ∧ b.code.length = (0 : Nat) ∧ (restOf a.fst a.snd.snd).isSome = x.snd.fst ∧ True else bif decide (a.fst = (6 : Int)) then (∃ (x : Nat × Bool × List Ins), (x.fst ≤ a.snd.snd.length ∧ x.snd.fst = (List.take x.fst a.snd.snd).all insOk ∧ x.snd.snd.length = x.fst ∧ (x.snd.fst = true → x.snd.snd = List.map insAt (List.take x.fst a.snd.snd))) ∧ true = true ∧ true = true ∧ (↑x.fst : Int) = (0 : Int) ∧ x.snd.fst = true ∧ (1 : Nat) = (1 : Nat) ∧ a.snd.snd.length = a.snd.snd.length ∧ (∀ (i j : Nat), i < a.snd.snd.length → j < (1 : Nat) → CV.str (a.snd.snd.getD i []) = CV.str (a.snd.snd.getD i [])) ∧ (0 : Nat) < (3 : Nat) ∧ some (0 : Nat) = some (0 : Nat) ∧ (0 : Nat) = (0 : Nat) ∧ (1 : Nat) < (3 : Nat) ∧ some (1 : Nat) = some (1 : Nat) ∧ (0 : Nat) = (0 : Nat) ∧ (0 : Nat) < (3 : Nat) ∧ (52 : TypeId) = (52 : Nat) ∧ true = true ∧ a.fst = a.fst ∧ (1 : Nat) = (1 : Nat) ∧ a.snd.fst.length = a.snd.fst.length ∧ (∀ (i j : Nat), i < a.snd.fst.length → j < (1 : Nat) → CV.int IntKind.i64 (a.snd.fst.getD i (0 : Int)) = CV.int IntKind.i64 (a.snd.fst.getD i (0 : Int))) ∧ true = true ∧ (0 : Int) = (0 : Int) ∧ true = true ∧ (0 : Int) = (0 : Int) ∧ true = true ∧ (0 : Int) = (0 : Int) ∧ true = true ∧ (0 : Int) = (0 : Int) ∧ true = true ∧ (0 : Int) = (0 : Int) ∧ true = true ∧ (0 : Int) = (0 : Int) ∧ true = true ∧ (0 : Int) = (0 : Int) ∧ (2 : Nat) < (3 : Nat) ∧ (none : Option Nat) = none ∧ (2 : Nat) < (3 : Nat) ∧ x.fst = (0 : Nat) ∧ (1 : Nat) < (3 : Nat) ∧ (52 : Nat) = (52 : Nat) ∧ true = true ∧ (0 : Int) = (0 : Int) ∧ true = true ∧ (0 : Int) = (0 : Int) ∧ true = true ∧ (0 : Int) = (0 : Int) ∧ true = true ∧ (0 : Int) = (0 : Int) ∧ true = true ∧ (0 : Int) = (0 : Int) ∧ true = true ∧ (0 : Int) = (0 : Int) ∧ true = true ∧ (0 : Int) = (0 : Int) ∧ true = true ∧ (0 : Int) = (0 : Int) ∧ True) ∧ ∀ (x : Nat × Bool × List Ins), x.fst ≤ a.snd.snd.length ∧ x.snd.fst = (List.take x.fst a.snd.snd).all insOk ∧ x.snd.snd.length = x.fst ∧ (x.snd.fst = true → x.snd.snd = List.map insAt (List.take x.fst a.snd.snd)) → bif decide ((↑x.fst : Int) < (↑a.snd.snd.length : Int)) then ((0 : Int) ≤ (↑x.fst : Int) ∧ (↑x.fst : Int) < (↑a.snd.snd.length : Int)) ∧ (↑x.fst : Int).toNat < a.snd.snd.length ∧ (1 : Nat) ≤ (1 : Nat) ∧ true = true ∧ (a.snd.snd.getD (↑x.fst : Int).toNat []).length < (4294967281 : Nat) ∧ a.snd.snd.getD (↑x.fst : Int).toNat [] = a.snd.snd.getD (↑x.fst : Int).toNat [] ∧ true = true ∧ ∀ (b : Ins), (∀ (t : Ins), instOf (a.snd.snd.getD (↑x.fst : Int).toNat []) = some t → b = t) → true = true ∧ (5 : Nat) = (5 : Nat) ∧ (5 : Nat) ≤ (5 : Nat) ∧ (x.snd.fst = true → x.snd.fst = true) ∧ (11 : Nat) ≤ (11 : Nat) ∧ true = true ∧ (5 : Nat) ≤ (5 : Nat) ∧ true = true ∧ true = true ∧ true = true ∧ true = true ∧ true = true ∧ (5 : Nat) ≤ (16777216 : Nat) ∧ (0 : Nat) < (5 : Nat) ∧ true = true ∧ true = true ∧ true = true ∧ true = true ∧ true = true ∧ x.fst + (1 : Nat) ≤ (9223372036854775807 : Nat) ∧ (x.fst + (1 : Nat)) * (40 : Nat) ≤ (140737488355328 : Nat) ∧ (0 : Nat) < (1 : Nat) ∧ (0 : Nat) < (5 : Nat) ∧ true = true ∧ (1 : Nat) = (1 : Nat) ∧ (11 : Nat) ≤ (11 : Nat) ∧ ∃ (x' : Nat × Bool × List Ins), (x'.fst ≤ a.snd.snd.length ∧ x'.snd.fst = (List.take x'.fst a.snd.snd).all insOk ∧ x'.snd.snd.length = x'.fst ∧ (x'.snd.fst = true → x'.snd.snd = List.map insAt (List.take x'.fst a.snd.snd))) ∧ a.snd.snd.length - x'.fst < a.snd.snd.length - x.fst ∧ true = true ∧ true = true ∧ (↑x'.fst : Int) = IntKind.i64.wrap ((↑x.fst : Int) + (1 : Int)) ∧ (x'.snd.fst = bif x.snd.fst then (instOf (a.snd.snd.getD (↑x.fst : Int).toNat [])).isSome else false) ∧ (1 : Nat) = (1 : Nat) ∧ a.snd.snd.length = a.snd.snd.length ∧ (∀ (i j : Nat), i < a.snd.snd.length → j < (1 : Nat) → CV.str (a.snd.snd.getD i []) = CV.str (a.snd.snd.getD i [])) ∧ (0 : Nat) < (3 : Nat) ∧ some (0 : Nat) = some (0 : Nat) ∧ (0 : Nat) = (0 : Nat) ∧ (1 : Nat) < (3 : Nat) ∧ some (1 : Nat) = some (1 : Nat) ∧ (0 : Nat) = (0 : Nat) ∧ (0 : Nat) < (3 : Nat) ∧ (52 : TypeId) = (52 : TypeId) ∧ true = true ∧ a.fst = a.fst ∧ (1 : Nat) = (1 : Nat) ∧ a.snd.fst.length = a.snd.fst.length ∧ (∀ (i j : Nat), i < a.snd.fst.length → j < (1 : Nat) → CV.int IntKind.i64 (a.snd.fst.getD i (0 : Int)) = CV.int IntKind.i64 (a.snd.fst.getD i (0 : Int))) ∧ true = true ∧ (0 : Int) = (0 : Int) ∧ true = true ∧ (0 : Int) = (0 : Int) ∧ true = true ∧ (0 : Int) = (0 : Int) ∧ true = true ∧ (0 : Int) = (0 : Int) ∧ true = true ∧ (0 : Int) = (0 : Int) ∧ true = true ∧ (0 : Int) = (0 : Int) ∧ true = true ∧ (0 : Int) = (0 : Int) ∧ (2 : Nat) < (3 : Nat) ∧ some (5 : Nat) = some (5 : Nat) ∧ (2 : Nat) < (3 : Nat) ∧ (78 : TypeId) = (78 : Nat) ∧ (5 : Nat) = (5 : Nat) ∧ x'.fst = x.fst + (1 : Nat) ∧ (∀ (i j : Nat), i < x'.fst → j < (5 : Nat) → tabE ins0 insC x'.snd.snd i j = if i < x.fst then tabE ins0 insC x.snd.snd i j else nth [CV.int IntKind.i64 b.op, CV.int IntKind.i64 b.a, CV.int IntKind.i64 b.b, CV.int IntKind.i64 b.c, CV.int IntKind.u64 b.n] j) ∧ (1 : Nat) < (3 : Nat) ∧ (52 : Nat) = (52 : Nat) ∧ true = true ∧ (0 : Int) = (0 : Int) ∧ true = true ∧ (0 : Int) = (0 : Int) ∧ true = true ∧ (0 : Int) = (0 : Int) ∧ true = true ∧ (0 : Int) = (0 : Int) ∧ true = true ∧ (0 : Int) = (0 : Int) ∧ true = true ∧ (0 : Int) = (0 : Int) ∧ true = true ∧ (0 : Int) = (0 : Int) ∧ true = true ∧ (0 : Int) = (0 : Int) ∧ True else (11 : Nat) ≤ (11 : Nat) ∧ true = true ∧ true = true ∧ true = true ∧ true = true ∧ true = true ∧ true = true ∧ true = true ∧ true = true ∧ true = true ∧ true = true ∧ true = true ∧ true = true ∧ (11 : Nat) = (11 : Nat) ∧ (11 : Nat) ≤ (11 : Nat) ∧ (11 : Nat) ≤ (11 : Nat) ∧ true = true ∧ true = true ∧ true = true ∧ true = true ∧ true = true ∧ true = true ∧ true = true ∧ true = true ∧ true = true ∧ true = true ∧ true = true ∧ ∃ (b : Lin), (∀ (r : RestB), restOf a.fst a.snd.snd = some r → b = { kind := a.fst, n := a.snd.fst, word := r.word, call := r.call, order := r.order, tasks := r.tasks, code := r.code }) ∧ true = true ∧ true = true ∧ b.kind = a.fst ∧ (1 : Nat) = (1 : Nat) ∧ b.n.length = a.snd.fst.length ∧ (∀ (i j : Nat), i < b.n.length → j < (1 : Nat) → CV.int IntKind.i64 (b.n.getD i (0 : Int)) = CV.int IntKind.i64 (a.snd.fst.getD i (0 : Int))) ∧ true = true ∧ b.word = (0 : Int) ∧ true = true ∧ b.call.op = (0 : Int) ∧ true = true ∧ b.call.a = (0 : Int) ∧ true = true ∧ b.call.b = (0 : Int) ∧ true = true ∧ b.call.c = (0 : Int) ∧ true = true ∧ b.call.d = (0 : Int) ∧ true = true ∧ b.order = (0 : Int) ∧ b.tasks.length = (0 : Nat) ∧ (5 : Nat) = (5 : Nat) ∧ b.code.length = x.fst ∧ (∀ (i j : Nat), i < b.code.length → j < (5 : Nat) → tabE ins0 insC b.code i j = tabE ins0 insC x.snd.snd i j) ∧ (restOf a.fst a.snd.snd).isSome = x.snd.fst ∧ True else bif decide (a.fst = (11 : Int)) then ∃ (a_1 : List (List UInt8)), a_1.length < (4294967281 : Nat) ∧ (1 : Nat) = (1 : Nat) ∧ a_1.length = a.snd.snd.length ∧ (∀ (i j : Nat), i < a_1.length → j < (1 : Nat) → CV.str (a_1.getD i []) = CV.str (a.snd.snd.getD i [])) ∧ true = true ∧ ∀ (b : Cal), (∀ (t : Cal), callOf a_1 = some t → b = t) → true = true ∧ (5 : Nat) = (5 : Nat) ∧ (8 : Nat) ≤ (11 : Nat) ∧ (11 : Nat) ≤ (11 : Nat) ∧ true = true ∧ true = true ∧ true = true ∧ true = true ∧ true = true ∧ true = true ∧ true = true ∧ true = true ∧ true = true ∧ true = true ∧ true = true ∧ true = true ∧ (11 : Nat) = (11 : Nat) ∧ (11 : Nat) ≤ (11 : Nat) ∧ (11 : Nat) ≤ (11 : Nat) ∧ true = true ∧ true = true ∧ true = true ∧ true = true ∧ true = true ∧ true = true ∧ true = true ∧ true = true ∧ true = true ∧ true = true ∧ true = true ∧ ∃ (b_1 : Lin), (∀ (r : RestB), restOf a.fst a.snd.snd = some r → b_1 = { kind := a.fst, n := a.snd.fst, word := r.word, call := r.call, order := r.order, tasks := r.tasks, code := r.code }) ∧ true = true ∧ true = true ∧ b_1.kind = a.fst ∧ (1 : Nat) = (1 : Nat) ∧ b_1.n.length = a.snd.fst.length ∧ (∀ (i j : Nat), i < b_1.n.length → j < (1 : Nat) → CV.int IntKind.i64 (b_1.n.getD i (0 : Int)) = CV.int IntKind.i64 (a.snd.fst.getD i (0 : Int))) ∧ true = true ∧ b_1.word = (0 : Int) ∧ true = true ∧ b_1.call.op = b.op ∧ true = true ∧ b_1.call.a = b.a ∧ true = true ∧ b_1.call.b = b.b ∧ true = true ∧ b_1.call.c = b.c ∧ true = true ∧ b_1.call.d = b.d ∧ true = true ∧ b_1.order = (0 : Int) ∧ b_1.tasks.length = (0 : Nat) ∧ b_1.code.length = (0 : Nat) ∧ (restOf a.fst a.snd.snd).isSome = (callOf a_1).isSome ∧ True else bif decide (a.fst = (12 : Int)) then bif !decide ((↑a.snd.snd.length : Int) = (1 : Int)) then (11 : Nat) ≤ (11 : Nat) ∧ true = true ∧ true = true ∧ true = true ∧ true = true ∧ true = true ∧ true = true ∧ true = true ∧ true = true ∧ true = true ∧ true = true ∧ true = true ∧ true = true ∧ (11 : Nat) = (11 : Nat) ∧ (11 : Nat) ≤ (11 : Nat) ∧ (11 : Nat) ≤ (11 : Nat) ∧ true = true ∧ true = true ∧ true = true ∧ true = true ∧ true = true ∧ true = true ∧ true = true ∧ true = true ∧ true = true ∧ true = true ∧ true = true ∧ ∃ (b : Lin), (∀ (r : RestB), restOf a.fst a.snd.snd = some r → b = { kind := a.fst, n := a.snd.fst, word := r.word, call := r.call, order := r.order, tasks := r.tasks, code := r.code }) ∧ true = true ∧ true = true ∧ b.kind = a.fst ∧ (1 : Nat) = (1 : Nat) ∧ b.n.length = a.snd.fst.length ∧ (∀ (i j : Nat), i < b.n.length → j < (1 : Nat) → CV.int IntKind.i64 (b.n.getD i (0 : Int)) = CV.int IntKind.i64 (a.snd.fst.getD i (0 : Int))) ∧ true = true ∧ b.word = (0 : Int) ∧ true = true ∧ b.call.op = (0 : Int) ∧ true = true ∧ b.call.a = (0 : Int) ∧ true = true ∧ b.call.b = (0 : Int) ∧ true = true ∧ b.call.c = (0 : Int) ∧ true = true ∧ b.call.d = (0 : Int) ∧ true = true ∧ b.order = (0 : Int) ∧ b.tasks.length = (0 : Nat) ∧ b.code.length = (0 : Nat) ∧ (restOf a.fst a.snd.snd).isSome = false ∧ True else ((0 : Int) ≤ (0 : Int) ∧ (0 : Int) < (↑a.snd.snd.length : Int)) ∧ (0 : Nat) < a.snd.snd.length ∧ (1 : Nat) ≤ (1 : Nat) ∧ true = true ∧ ((0 : Int) ≤ (18446744073709551615 : Int) ∧ (18446744073709551615 : Int) < (18446744073709551616 : Int)) ∧ a.snd.snd.getD (0 : Nat) [] = a.snd.snd.getD (0 : Nat) [] ∧ true = true ∧ (18446744073709551615 : Int) = (18446744073709551615 : Int) ∧ true = true ∧ ∀ (b : Unit), True → true = true ∧ (1 : Nat) = (1 : Nat) ∧ (3 : Nat) ≤ (11 : Nat) ∧ (11 : Nat) ≤ (11 : Nat) ∧ true = true ∧ true = true ∧ true = true ∧ true = true ∧ true = true ∧ true = true ∧ true = true ∧ true = true ∧ true = true ∧ true = true ∧ true = true ∧ true = true ∧ (11 : Nat) = (11 : Nat) ∧ (11 : Nat) ≤ (11 : Nat) ∧ (11 : Nat) ≤ (11 : Nat) ∧ true = true ∧ true = true ∧ true = true ∧ true = true ∧ true = true ∧ true = true ∧ true = true ∧ true = true ∧ true = true ∧ true = true ∧ true = true ∧ ∃ (b : Lin), (∀ (r : RestB), restOf a.fst a.snd.snd = some r → b = { kind := a.fst, n := a.snd.fst, word := r.word, call := r.call, order := r.order, tasks := r.tasks, code := r.code }) ∧ true = true ∧ true = true ∧ b.kind = a.fst ∧ (1 : Nat) = (1 : Nat) ∧ b.n.length = a.snd.fst.length ∧ (∀ (i j : Nat), i < b.n.length → j < (1 : Nat) → CV.int IntKind.i64 (b.n.getD i (0 : Int)) = CV.int IntKind.i64 (a.snd.fst.getD i (0 : Int))) ∧ true = true ∧ b.word = (numAns (a.snd.snd.getD (0 : Nat) []) (18446744073709551615 : Int)).fst ∧ true = true ∧ b.call.op = (0 : Int) ∧ true = true ∧ b.call.a = (0 : Int) ∧ true = true ∧ b.call.b = (0 : Int) ∧ true = true ∧ b.call.c = (0 : Int) ∧ true = true ∧ b.call.d = (0 : Int) ∧ true = true ∧ b.order = (0 : Int) ∧ b.tasks.length = (0 : Nat) ∧ b.code.length = (0 : Nat) ∧ (restOf a.fst a.snd.snd).isSome = (numAns (a.snd.snd.getD (0 : Nat) []) (18446744073709551615 : Int)).snd ∧ True else (11 : Nat) ≤ (11 : Nat) ∧ true = true ∧ true = true ∧ true = true ∧ true = true ∧ true = true ∧ true = true ∧ true = true ∧ true = true ∧ true = true ∧ true = true ∧ true = true ∧ true = true ∧ (11 : Nat) = (11 : Nat) ∧ (11 : Nat) ≤ (11 : Nat) ∧ (11 : Nat) ≤ (11 : Nat) ∧ true = true ∧ true = true ∧ true = true ∧ true = true ∧ true = true ∧ true = true ∧ true = true ∧ true = true ∧ true = true ∧ true = true ∧ true = true ∧ ∃ (b : Lin), (∀ (r : RestB), restOf a.fst a.snd.snd = some r → b = { kind := a.fst, n := a.snd.fst, word := r.word, call := r.call, order := r.order, tasks := r.tasks, code := r.code }) ∧ true = true ∧ true = true ∧ b.kind = a.fst ∧ (1 : Nat) = (1 : Nat) ∧ b.n.length = a.snd.fst.length ∧ (∀ (i j : Nat), i < b.n.length → j < (1 : Nat) → CV.int IntKind.i64 (b.n.getD i (0 : Int)) = CV.int IntKind.i64 (a.snd.fst.getD i (0 : Int))) ∧ true = true ∧ b.word = (0 : Int) ∧ true = true ∧ b.call.op = (0 : Int) ∧ true = true ∧ b.call.a = (0 : Int) ∧ true = true ∧ b.call.b = (0 : Int) ∧ true = true ∧ b.call.c = (0 : Int) ∧ true = true ∧ b.call.d = (0 : Int) ∧ true = true ∧ b.order = (0 : Int) ∧ b.tasks.length = (0 : Nat) ∧ b.code.length = (0 : Nat) ∧ (restOf a.fst a.snd.snd).isSome = decide ((↑a.snd.snd.length : Int) = (0 : Int)) ∧ True) (by kernel_rfl) ?_
  try simp only [condP, eq_self, true_and, and_true, and_self, cond_or, cond_and, decide_true, decide_false, imp_self, implies_true, forall_const, exists_const, exists_prop, decide_eq_true_eq, decide_eq_false_iff_not, Bool.and_eq_true, Bool.or_eq_true, Bool.not_eq_true', Bool.not_eq_false', Bool.or_eq_false_iff, Bool.and_eq_false_imp, tdiv_u64, tmod_u64, Int.toNat_natCast, Int.toNat_zero, Int.reduceToNat, Int.reduceAdd, Int.reduceMod, Int.reduceSub, Int.reduceMul, Int.reduceNeg, Int.reduceLT, Int.reduceLE, Int.cast_ofNat_Int, Nat.reduceLT, Nat.reduceLeDiff, Nat.reduceEqDiff, Nat.reduceAdd, Nat.reduceMul, Nat.reduceSub, Nat.reducePow, Nat.le_refl, Int.le_refl, Nat.zero_add, Nat.add_zero, Nat.mul_one, Nat.zero_le, Bool.false_eq_true, Bool.true_eq_false, reduceCtorEq, not_false_eq_true, not_true_eq_false, false_implies, true_implies, Nat.lt_irrefl, Int.lt_irrefl, UInt8.reduceOfNat, UInt8.reduceToNat]
  obtain ⟨kd, ns, l⟩ := a
  have hp : l.length < 4294967281 ∧ ∀ i, (l.getD i []).length < 4294967281 := hp
  obtain ⟨hp, hps⟩ := hp
  have hn : restOf kd l = none → (∀ b : Lin, ∀ r, restOf kd l = some r → b = ⟨kd, ns, r.word, r.call, r.order, r.tasks, r.code⟩) ∧ (restOf kd l).isSome = false := fun h => (by rw [h]; exact ⟨fun _ r hr => (by cases hr), rfl⟩)
  simp only
  (repeat' (first | (apply And.intro) | (intro _))) <;> (try simp (disch := omega) only [w64, wu64, wu8, Int.toNat_natCast, toNat_add_one, toNat_one_add] at *) <;> (try (first | (with_reducible rfl) | (with_reducible assumption) | exact True.intro | omega))
  · rename_i h4 hz
    have h := hn (by
      rw [h4]
      refine restOf4_no ?_
      rcases hz with hz | hz
      · exact .inl (by omega)
      · refine .inr ?_
        exact (if_neg hz.1).trans (if_neg hz.2))
    exact ⟨⟨kd, ns, 0, cal0, 0, [], []⟩, h.1 _, rfl, rfl, fun _ _ _ _ => rfl, rfl, rfl, rfl, rfl, rfl, rfl, rfl, rfl, rfl, h.2⟩
  · rename_i h4 hz he
    have ho : ordOf (l.getD 0 []) = some 1 := by rw [he]; rfl
    exact ⟨(0, true, []), ⟨Nat.zero_le _, rfl, rfl, fun _ => rfl⟩, rfl, rfl, by rw [ho]; rfl, rfl⟩
  · exact hps _
  · rename_i h4 hz he x h1 h2 b hb
    have hx : x.1 < l.tail.length := by rw [List.length_tail]; omega
    rw [getD_tail] at hb ⊢
    refine ⟨(x.1 + 1, x.2.1 && tskOk (l.tail.getD x.1 []), x.2.2 ++ [b]), ⟨by simp only; omega, by rw [take_all_and [] hx, ← h1.2.1], by simp [h1.2.2.1], fun hh => ?_⟩, by simp only; omega, by simp only; omega, rfl, rfl, fun i j hi hj => tabE_snoc h1.2.2.1 hi⟩
    simp only [Bool.and_eq_true] at hh
    rw [map_take_snoc l.tail [] _ hx, ← h1.2.2.2 hh.1, ← tskAt_of hh.2 hb]
  · rename_i h4 hz he x h1 h2
    have ho : ordOf (l.getD 0 []) = some 1 := by rw [he]; rfl
    have hne : l ≠ [] := fun e => by subst e; simp at hz
    have hx : x.1 = l.tail.length := by have := h1.1; rw [List.length_tail] at this ⊢; omega
    obtain ⟨n, ok, T⟩ := x
    simp only at h1 hx ⊢
    subst hx
    rw [List.take_length] at h1
    have hr := restOf4 hne ho
    rw [h4, hr, ho]
    cases ok with
    | true =>
      rw [← h1.2.1, if_pos rfl]
      exact ⟨⟨4, ns, 0, cal0, 1, T, []⟩, fun r hr => by rw [← Option.some.inj hr, h1.2.2.2 rfl]; rfl, rfl, rfl, fun _ _ _ _ => rfl, rfl, rfl, rfl, rfl, rfl, rfl, rfl, h1.2.2.1, fun _ _ _ _ => rfl, rfl, rfl⟩
    | false =>
      rw [← h1.2.1, if_neg (by decide)]
      exact ⟨⟨4, ns, 0, cal0, 1, T, []⟩, fun r hr => (by cases hr), rfl, rfl, fun _ _ _ _ => rfl, rfl, rfl, rfl, rfl, rfl, rfl, rfl, h1.2.2.1, fun _ _ _ _ => rfl, rfl, rfl⟩
  · rename_i h4 hz he
    have ho : ordOf (l.getD 0 []) = some 0 := by rw [Classical.byContradiction fun e => he (hz.2 e)]; rfl
    exact ⟨(0, true, []), ⟨Nat.zero_le _, rfl, rfl, fun _ => rfl⟩, rfl, rfl, by rw [ho]; rfl, rfl⟩
  · exact hps _
  · rename_i h4 hz he x h1 h2 b hb
    have hx : x.1 < l.tail.length := by rw [List.length_tail]; omega
    rw [getD_tail] at hb ⊢
    refine ⟨(x.1 + 1, x.2.1 && tskOk (l.tail.getD x.1 []), x.2.2 ++ [b]), ⟨by simp only; omega, by rw [take_all_and [] hx, ← h1.2.1], by simp [h1.2.2.1], fun hh => ?_⟩, by simp only; omega, by simp only; omega, rfl, rfl, fun i j hi hj => tabE_snoc h1.2.2.1 hi⟩
    simp only [Bool.and_eq_true] at hh
    rw [map_take_snoc l.tail [] _ hx, ← h1.2.2.2 hh.1, ← tskAt_of hh.2 hb]
  · rename_i h4 hz he x h1 h2
    have ho : ordOf (l.getD 0 []) = some 0 := by rw [Classical.byContradiction fun e => he (hz.2 e)]; rfl
    have hne : l ≠ [] := fun e => by subst e; simp at hz
    have hx : x.1 = l.tail.length := by have := h1.1; rw [List.length_tail] at this ⊢; omega
    obtain ⟨n, ok, T⟩ := x
    simp only at h1 hx ⊢
    subst hx
    rw [List.take_length] at h1
    have hr := restOf4 hne ho
    rw [h4, hr, ho]
    cases ok with
    | true =>
      rw [← h1.2.1, if_pos rfl]
      exact ⟨⟨4, ns, 0, cal0, 0, T, []⟩, fun r hr => by rw [← Option.some.inj hr, h1.2.2.2 rfl]; rfl, rfl, rfl, fun _ _ _ _ => rfl, rfl, rfl, rfl, rfl, rfl, rfl, rfl, h1.2.2.1, fun _ _ _ _ => rfl, rfl, rfl⟩
    | false =>
      rw [← h1.2.1, if_neg (by decide)]
      exact ⟨⟨4, ns, 0, cal0, 0, T, []⟩, fun r hr => (by cases hr), rfl, rfl, fun _ _ _ _ => rfl, rfl, rfl, rfl, rfl, rfl, rfl, rfl, h1.2.2.1, fun _ _ _ _ => rfl, rfl, rfl⟩
  · exact ⟨(0, true, []), ⟨Nat.zero_le _, rfl, rfl, fun _ => rfl⟩, rfl, rfl, rfl⟩
  · exact hps _
  · rename_i h4 h6 x h1 h2 b hb
    have hx : x.1 < l.length := by omega
    refine ⟨(x.1 + 1, x.2.1 && insOk (l.getD x.1 []), x.2.2 ++ [b]), ⟨by simp only; omega, by rw [take_all_and [] hx, ← h1.2.1], by simp [h1.2.2.1], fun hh => ?_⟩, by simp only; omega, by simp only; omega, rfl, rfl, fun i j hi hj => tabE_snoc h1.2.2.1 hi⟩
    simp only [Bool.and_eq_true] at hh
    rw [map_take_snoc l [] _ hx, ← h1.2.2.2 hh.1, ← insAt_of hh.2 hb]
  · rename_i h4 h6 x h1 h2
    have hx : x.1 = l.length := by omega
    obtain ⟨n, ok, T⟩ := x
    simp only at h1 hx ⊢
    subst hx
    rw [List.take_length] at h1
    rw [h6]
    have hr : restOf 6 l = if l.all insOk = true then some { rest0 with code := l.map insAt } else none := rfl
    rw [hr]
    cases ok with
    | true =>
      rw [← h1.2.1, if_pos rfl]
      exact ⟨⟨6, ns, 0, cal0, 0, [], T⟩, fun r hr => by rw [← Option.some.inj hr, h1.2.2.2 rfl]; rfl, rfl, rfl, fun _ _ _ _ => rfl, rfl, rfl, rfl, rfl, rfl, rfl, rfl, rfl, h1.2.2.1, fun _ _ _ _ => rfl, rfl⟩
    | false =>
      rw [← h1.2.1, if_neg (by decide)]
      exact ⟨⟨6, ns, 0, cal0, 0, [], T⟩, fun r hr => (by cases hr), rfl, rfl, fun _ _ _ _ => rfl, rfl, rfl, rfl, rfl, rfl, rfl, rfl, rfl, h1.2.2.1, fun _ _ _ _ => rfl, rfl⟩
  · rename_i h4 h6 h11
    refine ⟨l, hp, rfl, fun _ _ _ _ => rfl, fun b hb => ?_⟩
    rw [h11]
    have hr : restOf 11 l = (callOf l).map fun c => { rest0 with call := c } := rfl
    rw [hr]
    refine ⟨⟨11, ns, 0, b, 0, [], []⟩, fun r hr => ?_, rfl, rfl, fun _ _ _ _ => rfl, rfl, rfl, rfl, rfl, rfl, rfl, rfl, rfl, rfl, ?_⟩
    · cases e : callOf l with
      | none => rw [e] at hr; cases hr
      | some c =>
        rw [e] at hr
        have := hb c e
        subst this
        rw [← Option.some.inj hr]
        rfl
    · cases callOf l <;> rfl
  · rename_i h4 h6 h11 h12 hl
    have h := hn (by
      rw [h12]
      show (match l with
        | [w] => if (numAns w 18446744073709551615).2 then some { rest0 with word := (numAns w 18446744073709551615).1 } else none
        | _ => none) = none
      split
      · exact absurd rfl hl
      · rfl)
    exact ⟨⟨kd, ns, 0, cal0, 0, [], []⟩, h.1 _, rfl, rfl, fun _ _ _ _ => rfl, rfl, rfl, rfl, rfl, rfl, rfl, rfl, rfl, rfl, h.2⟩
  · rename_i h4 h6 h11 h12 hl
    obtain ⟨w, hw⟩ : ∃ w, l = [w] := by
      match l, hl with
      | [w], _ => exact ⟨w, rfl⟩
      | [], hl => exact absurd hl (by decide)
      | _ :: _ :: _, hl => simp only [List.length_cons] at hl; omega
    subst hw
    rw [h12]
    have hr : restOf 12 [w] = if (numAns w 18446744073709551615).2 then some { rest0 with word := (numAns w 18446744073709551615).1 } else none := rfl
    rw [hr]
    refine ⟨⟨12, ns, (numAns w 18446744073709551615).1, cal0, 0, [], []⟩, fun r hr => ?_, rfl, rfl, fun _ _ _ _ => rfl, rfl, rfl, rfl, rfl, rfl, rfl, rfl, rfl, rfl, ?_⟩
    · split at hr
      · rw [← Option.some.inj hr]; rfl
      · cases hr
    · show _ = (numAns w 18446744073709551615).2
      cases (numAns w 18446744073709551615).2 <;> rfl
  · rename_i h4 h6 h11 h12
    have hr : restOf kd l = if l = [] then some rest0 else none := by unfold restOf; rw [if_neg h4, if_neg h6, if_neg h11, if_neg h12]
    rw [hr]
    refine ⟨⟨kd, ns, 0, cal0, 0, [], []⟩, fun r hr => ?_, rfl, rfl, fun _ _ _ _ => rfl, rfl, rfl, rfl, rfl, rfl, rfl, rfl, rfl, rfl, ?_⟩
    · split at hr
      · rw [← Option.some.inj hr]; rfl
      · cases hr
    · cases l with
      | nil => rfl
      | cons w ws =>
        rw [if_neg (by simp)]
        symm
        exact decide_eq_false (by simp only [List.length_cons]; omega)
end Go.Sx.Tryd
namespace Go.Sx.Tryd
open Go Go.Sx Go.Proofs
variable {mx : Int}
set_option linter.unusedSimpArgs false
set_option maxRecDepth 20000
set_option maxHeartbeats 4000000
def roneInv (a : List UInt8) : Nat → Option Inv := fun id =>
  bif id == 5 then some { α := Nat, keep := [2, 4], drop := [], env := fun _ x => [(5, .r (.c (.int .i64 (x + 1))))], chunks := fun _ _ => [], fresh := 0, pre := fun x => x ≤ 17 ∧ ∀ j : Nat, 0 < j → j < x + 1 → nameAt kindL j ≠ (wordsL a).getD 0 [], μ := fun x => 17 - x } else none
theorem rone_does : Does Tryd.prog (glS mx) 25 (oneSpec) := by
  refine Does.of (fn := Tryd.f25) Tryd.func25 rfl ttok (spec := lookS [(10, wordsI), (12, nameI kindL), (28, fiP manyT 18), (38, numsSpec), (39, behSpec)]) (((((Known.nil.cons callee39 beh_does).cons callee38 nums_does).cons callee28 many_does).cons callee12 rnameI_does).cons callee10 rwordsI_does) (pc := fun _ => true) (((((PureOk.nil.cons (s := behSpec) (k := 39) (fun _ _ => rfl)).cons (s := numsSpec) (k := 38) (fun _ _ => rfl)).cons (s := fiP manyT 18) (k := 28) (fun _ _ => rfl)).cons (s := nameI kindL) (k := 12) (fun _ _ => rfl)).cons (s := wordsI) (k := 10) (fun _ _ => rfl)) mixed (oneSpec) (fun a id _ => roneInv a id) (ord25) 3000 (rs := [.cell 2 52, .tmp 3]) rfl (n := 67) rfl (by decide) (by kernel_rfl) ?_
  intro (a : List UInt8) hp
  refine ⟨of_decide_eq_true (by kernel_rfl), ?_⟩
  refine vc_of (Q := bif decide ((1000 : Int) < (↑a.length : Int)) then true = true ∧ (11 : Nat) = (11 : Nat) ∧ (11 : Nat) ≤ (11 : Nat) ∧ (11 : Nat) ≤ (11 : Nat) ∧ true = true ∧ true = true ∧ true = true ∧ true = true ∧ true = true ∧ true = true ∧ true = true ∧ true = true ∧ true = true ∧ true = true ∧ true = true ∧ ∃ (b : Unit), True ∧ true = true ∧ true = true ∧ ((oneOf a).getD lin0).kind = (0 : Int) ∧ ((oneOf a).getD lin0).n.length = (0 : Nat) ∧ true = true ∧ ((oneOf a).getD lin0).word = (0 : Int) ∧ true = true ∧ ((oneOf a).getD lin0).call.op = (0 : Int) ∧ true = true ∧ ((oneOf a).getD lin0).call.a = (0 : Int) ∧ true = true ∧ ((oneOf a).getD lin0).call.b = (0 : Int) ∧ true = true ∧ ((oneOf a).getD lin0).call.c = (0 : Int) ∧ true = true ∧ ((oneOf a).getD lin0).call.d = (0 : Int) ∧ true = true ∧ ((oneOf a).getD lin0).order = (0 : Int) ∧ ((oneOf a).getD lin0).tasks.length = (0 : Nat) ∧ ((oneOf a).getD lin0).code.length = (0 : Nat) ∧ true = true ∧ oneE a = (28 : Int) ∧ True else a.length < (4294967281 : Nat) ∧ a = a ∧ true = true ∧ ∀ (b : Unit), True → (∃ (x : Nat), (x ≤ (17 : Nat) ∧ ∀ (j : Nat), (0 : Nat) < j → j < x + (1 : Nat) → nameAt kindL (↑j : Int) ≠ (wordsL a).getD (0 : Nat) []) ∧ true = true ∧ true = true ∧ (↑x : Int) + (1 : Int) = (1 : Int) ∧ (0 : Nat) < (2 : Nat) ∧ some (0 : Nat) = some (0 : Nat) ∧ (0 : Nat) = (0 : Nat) ∧ (1 : Nat) < (2 : Nat) ∧ some (1 : Nat) = some (1 : Nat) ∧ (1 : Nat) < (2 : Nat) ∧ (9 : TypeId) = (9 : TypeId) ∧ (1 : Nat) = (1 : Nat) ∧ (wordsL a).length = (wordsL a).length ∧ (∀ (i j : Nat), i < (wordsL a).length → j < (1 : Nat) → CV.str ((wordsL a).getD i []) = CV.str ((wordsL a).getD i [])) ∧ (0 : Nat) < (2 : Nat) ∧ (52 : Nat) = (52 : Nat) ∧ true = true ∧ (0 : Int) = (0 : Int) ∧ true = true ∧ (0 : Int) = (0 : Int) ∧ true = true ∧ (0 : Int) = (0 : Int) ∧ true = true ∧ (0 : Int) = (0 : Int) ∧ true = true ∧ (0 : Int) = (0 : Int) ∧ true = true ∧ (0 : Int) = (0 : Int) ∧ true = true ∧ (0 : Int) = (0 : Int) ∧ true = true ∧ (0 : Int) = (0 : Int) ∧ True) ∧ ∀ (x : Nat), (x ≤ (17 : Nat) ∧ ∀ (j : Nat), (0 : Nat) < j → j < x + (1 : Nat) → nameAt kindL (↑j : Int) ≠ (wordsL a).getD (0 : Nat) []) → (decide ((↑x : Int) + (1 : Int) ≤ (17 : Int)) = true → decide ((↑x : Int) + (1 : Int) ≤ (17 : Int)) = true) ∧ (decide ((↑x : Int) + (1 : Int) ≤ (17 : Int)) = true → decide ((↑x : Int) + (1 : Int) ≤ (17 : Int)) = true) ∧ (decide ((↑x : Int) + (1 : Int) ≤ (17 : Int)) = true → decide ((↑x : Int) + (1 : Int) ≤ (17 : Int)) = true) ∧ bif bif decide ((↑x : Int) + (1 : Int) ≤ (17 : Int)) then decide ((0 : Int) < (↑(wordsL a).length : Int)) else false then ((0 : Int) ≤ (0 : Int) ∧ (0 : Int) < (↑(wordsL a).length : Int)) ∧ (0 : Nat) < (wordsL a).length ∧ (1 : Nat) = (1 : Nat) ∧ (1 : Nat) ≤ (1 : Nat) ∧ true = true ∧ True ∧ true = true ∧ (↑x : Int) + (1 : Int) = (↑x : Int) + (1 : Int) ∧ true = true ∧ ∀ (b : Unit), True → bif !decide (nameAt kindL ((↑x : Int) + (1 : Int)) = (wordsL a).getD (0 : Nat) []) then ∃ (x' : Nat), (x' ≤ (17 : Nat) ∧ ∀ (j : Nat), (0 : Nat) < j → j < x' + (1 : Nat) → nameAt kindL (↑j : Int) ≠ (wordsL a).getD (0 : Nat) []) ∧ (17 : Nat) - x' < (17 : Nat) - x ∧ true = true ∧ true = true ∧ (↑x' : Int) + (1 : Int) = IntKind.i64.wrap ((↑x : Int) + (1 : Int) + (1 : Int)) ∧ (0 : Nat) < (2 : Nat) ∧ some (0 : Nat) = some (0 : Nat) ∧ (0 : Nat) = (0 : Nat) ∧ (1 : Nat) < (2 : Nat) ∧ some (1 : Nat) = some (1 : Nat) ∧ (1 : Nat) < (2 : Nat) ∧ (9 : TypeId) = (9 : TypeId) ∧ (1 : Nat) = (1 : Nat) ∧ (wordsL a).length = (wordsL a).length ∧ (∀ (i j : Nat), i < (wordsL a).length → j < (1 : Nat) → CV.str ((wordsL a).getD i []) = CV.str ((wordsL a).getD i [])) ∧ (0 : Nat) < (2 : Nat) ∧ (52 : Nat) = (52 : Nat) ∧ true = true ∧ (0 : Int) = (0 : Int) ∧ true = true ∧ (0 : Int) = (0 : Int) ∧ true = true ∧ (0 : Int) = (0 : Int) ∧ true = true ∧ (0 : Int) = (0 : Int) ∧ true = true ∧ (0 : Int) = (0 : Int) ∧ true = true ∧ (0 : Int) = (0 : Int) ∧ true = true ∧ (0 : Int) = (0 : Int) ∧ true = true ∧ (0 : Int) = (0 : Int) ∧ True else ((0 : Int) ≤ (↑x : Int) + (1 : Int) ∧ (↑x : Int) + (1 : Int) < (18 : Int)) ∧ true = true ∧ (↑x : Int) + (1 : Int) = (↑x : Int) + (1 : Int) ∧ true = true ∧ ∀ (b : Unit), True → bif decide ((↑(wordsL a).length : Int) < IntKind.i64.wrap (manyT ((↑x : Int) + (1 : Int)) + (1 : Int))) then true = true ∧ (11 : Nat) = (11 : Nat) ∧ (11 : Nat) ≤ (11 : Nat) ∧ (11 : Nat) ≤ (11 : Nat) ∧ true = true ∧ true = true ∧ true = true ∧ true = true ∧ true = true ∧ true = true ∧ true = true ∧ true = true ∧ true = true ∧ true = true ∧ true = true ∧ ∃ (b : Unit), True ∧ true = true ∧ true = true ∧ ((oneOf a).getD lin0).kind = (0 : Int) ∧ ((oneOf a).getD lin0).n.length = (0 : Nat) ∧ true = true ∧ ((oneOf a).getD lin0).word = (0 : Int) ∧ true = true ∧ ((oneOf a).getD lin0).call.op = (0 : Int) ∧ true = true ∧ ((oneOf a).getD lin0).call.a = (0 : Int) ∧ true = true ∧ ((oneOf a).getD lin0).call.b = (0 : Int) ∧ true = true ∧ ((oneOf a).getD lin0).call.c = (0 : Int) ∧ true = true ∧ ((oneOf a).getD lin0).call.d = (0 : Int) ∧ true = true ∧ ((oneOf a).getD lin0).order = (0 : Int) ∧ ((oneOf a).getD lin0).tasks.length = (0 : Nat) ∧ ((oneOf a).getD lin0).code.length = (0 : Nat) ∧ true = true ∧ oneE a = (21 : Int) ∧ True else ((0 : Int) ≤ (↑x : Int) + (1 : Int) ∧ (↑x : Int) + (1 : Int) < (18 : Int)) ∧ true = true ∧ (↑x : Int) + (1 : Int) = (↑x : Int) + (1 : Int) ∧ true = true ∧ ∀ (b : Unit), True → ((0 : Int) ≤ (1 : Int) ∧ (1 : Int) ≤ IntKind.i64.wrap (manyT ((↑x : Int) + (1 : Int)) + (1 : Int)) ∧ IntKind.i64.wrap (manyT ((↑x : Int) + (1 : Int)) + (1 : Int)) ≤ (↑(wordsL a).length : Int)) ∧ ∃ (a_6 : List (List UInt8)), a_6.length < (4294967290 : Nat) ∧ (1 : Nat) = (1 : Nat) ∧ a_6.length = (IntKind.i64.wrap (manyT ((↑x : Int) + (1 : Int)) + (1 : Int))).toNat - (1 : Nat) ∧ (∀ (i j : Nat), i < a_6.length → j < (1 : Nat) → CV.str (a_6.getD i []) = CV.str ((wordsL a).getD ((1 : Nat) + i) [])) ∧ true = true ∧ ∀ (b : Unit), True → bif !a_6.all okW then true = true ∧ (11 : Nat) = (11 : Nat) ∧ (11 : Nat) ≤ (11 : Nat) ∧ (11 : Nat) ≤ (11 : Nat) ∧ true = true ∧ true = true ∧ true = true ∧ true = true ∧ true = true ∧ true = true ∧ true = true ∧ true = true ∧ true = true ∧ true = true ∧ true = true ∧ ∃ (b : Unit), True ∧ true = true ∧ true = true ∧ ((oneOf a).getD lin0).kind = (0 : Int) ∧ ((oneOf a).getD lin0).n.length = (0 : Nat) ∧ true = true ∧ ((oneOf a).getD lin0).word = (0 : Int) ∧ true = true ∧ ((oneOf a).getD lin0).call.op = (0 : Int) ∧ true = true ∧ ((oneOf a).getD lin0).call.a = (0 : Int) ∧ true = true ∧ ((oneOf a).getD lin0).call.b = (0 : Int) ∧ true = true ∧ ((oneOf a).getD lin0).call.c = (0 : Int) ∧ true = true ∧ ((oneOf a).getD lin0).call.d = (0 : Int) ∧ true = true ∧ ((oneOf a).getD lin0).order = (0 : Int) ∧ ((oneOf a).getD lin0).tasks.length = (0 : Nat) ∧ ((oneOf a).getD lin0).code.length = (0 : Nat) ∧ true = true ∧ oneE a = (21 : Int) ∧ True else ((0 : Int) ≤ (↑x : Int) + (1 : Int) ∧ (↑x : Int) + (1 : Int) < (18 : Int)) ∧ true = true ∧ (↑x : Int) + (1 : Int) = (↑x : Int) + (1 : Int) ∧ true = true ∧ ∀ (b : Unit), True → ((0 : Int) ≤ IntKind.i64.wrap (manyT ((↑x : Int) + (1 : Int)) + (1 : Int)) ∧ IntKind.i64.wrap (manyT ((↑x : Int) + (1 : Int)) + (1 : Int)) ≤ (↑(wordsL a).length : Int) ∧ (↑(wordsL a).length : Int) ≤ (↑(wordsL a).length : Int)) ∧ ∃ (a_9 : Int × List Int × List (List UInt8)), (a_9.snd.snd.length < (4294967281 : Nat) ∧ ∀ (i : Nat), (a_9.snd.snd.getD i []).length < (4294967281 : Nat)) ∧ true = true ∧ a_9.fst = (↑x : Int) + (1 : Int) ∧ (1 : Nat) = (1 : Nat) ∧ a_9.snd.fst.length = (numsL a_6).length ∧ (∀ (i j : Nat), i < a_9.snd.fst.length → j < (1 : Nat) → CV.int IntKind.i64 (a_9.snd.fst.getD i (0 : Int)) = CV.int IntKind.i64 ((numsL a_6).getD i (0 : Int))) ∧ true = true ∧ (0 : Int) = (0 : Int) ∧ true = true ∧ (0 : Int) = (0 : Int) ∧ true = true ∧ (0 : Int) = (0 : Int) ∧ true = true ∧ (0 : Int) = (0 : Int) ∧ true = true ∧ (0 : Int) = (0 : Int) ∧ true = true ∧ (0 : Int) = (0 : Int) ∧ true = true ∧ (0 : Int) = (0 : Int) ∧ (1 : Nat) = (1 : Nat) ∧ a_9.snd.snd.length = (↑(wordsL a).length : Int).toNat - (IntKind.i64.wrap (manyT ((↑x : Int) + (1 : Int)) + (1 : Int))).toNat ∧ (∀ (i j : Nat), i < a_9.snd.snd.length → j < (1 : Nat) → CV.str (a_9.snd.snd.getD i []) = CV.str ((wordsL a).getD ((IntKind.i64.wrap (manyT ((↑x : Int) + (1 : Int)) + (1 : Int))).toNat + i) [])) ∧ true = true ∧ ∀ (b : Lin), (∀ (r : RestB), restOf a_9.fst a_9.snd.snd = some r → b = { kind := a_9.fst, n := a_9.snd.fst, word := r.word, call := r.call, order := r.order, tasks := r.tasks, code := r.code }) → true = true ∧ (11 : Nat) = (11 : Nat) ∧ (11 : Nat) ≤ (11 : Nat) ∧ bif !(restOf a_9.fst a_9.snd.snd).isSome then true = true ∧ (11 : Nat) = (11 : Nat) ∧ (11 : Nat) ≤ (11 : Nat) ∧ (11 : Nat) ≤ (11 : Nat) ∧ true = true ∧ true = true ∧ true = true ∧ true = true ∧ true = true ∧ true = true ∧ true = true ∧ true = true ∧ true = true ∧ true = true ∧ true = true ∧ ∃ (b : Unit), True ∧ true = true ∧ true = true ∧ ((oneOf a).getD lin0).kind = (0 : Int) ∧ ((oneOf a).getD lin0).n.length = (0 : Nat) ∧ true = true ∧ ((oneOf a).getD lin0).word = (0 : Int) ∧ true = true ∧ ((oneOf a).getD lin0).call.op = (0 : Int) ∧ true = true ∧ ((oneOf a).getD lin0).call.a = (0 : Int) ∧ true = true ∧ ((oneOf a).getD lin0).call.b = (0 : Int) ∧ true = true ∧ ((oneOf a).getD lin0).call.c = (0 : Int) ∧ true = true ∧ ((oneOf a).getD lin0).call.d = (0 : Int) ∧ true = true ∧ ((oneOf a).getD lin0).order = (0 : Int) ∧ ((oneOf a).getD lin0).tasks.length = (0 : Nat) ∧ ((oneOf a).getD lin0).code.length = (0 : Nat) ∧ true = true ∧ oneE a = (21 : Int) ∧ True else (11 : Nat) ≤ (11 : Nat) ∧ true = true ∧ true = true ∧ true = true ∧ true = true ∧ true = true ∧ true = true ∧ true = true ∧ true = true ∧ true = true ∧ true = true ∧ true = true ∧ true = true ∧ (11 : Nat) = (11 : Nat) ∧ (11 : Nat) ≤ (11 : Nat) ∧ (11 : Nat) ≤ (11 : Nat) ∧ true = true ∧ true = true ∧ true = true ∧ true = true ∧ true = true ∧ true = true ∧ true = true ∧ true = true ∧ true = true ∧ true = true ∧ true = true ∧ ∃ (b_1 : Unit), True ∧ true = true ∧ true = true ∧ ((oneOf a).getD lin0).kind = b.kind ∧ (1 : Nat) = (1 : Nat) ∧ ((oneOf a).getD lin0).n.length = b.n.length ∧ (∀ (i j : Nat), i < ((oneOf a).getD lin0).n.length → j < (1 : Nat) → CV.int IntKind.i64 (((oneOf a).getD lin0).n.getD i (0 : Int)) = CV.int IntKind.i64 (b.n.getD i (0 : Int))) ∧ true = true ∧ ((oneOf a).getD lin0).word = b.word ∧ true = true ∧ ((oneOf a).getD lin0).call.op = b.call.op ∧ true = true ∧ ((oneOf a).getD lin0).call.a = b.call.a ∧ true = true ∧ ((oneOf a).getD lin0).call.b = b.call.b ∧ true = true ∧ ((oneOf a).getD lin0).call.c = b.call.c ∧ true = true ∧ ((oneOf a).getD lin0).call.d = b.call.d ∧ true = true ∧ ((oneOf a).getD lin0).order = b.order ∧ (5 : Nat) = (5 : Nat) ∧ ((oneOf a).getD lin0).tasks.length = b.tasks.length ∧ (∀ (i j : Nat), i < ((oneOf a).getD lin0).tasks.length → j < (5 : Nat) → tabE tsk0 tskC ((oneOf a).getD lin0).tasks i j = tabE tsk0 tskC b.tasks i j) ∧ (5 : Nat) = (5 : Nat) ∧ ((oneOf a).getD lin0).code.length = b.code.length ∧ (∀ (i j : Nat), i < ((oneOf a).getD lin0).code.length → j < (5 : Nat) → tabE ins0 insC ((oneOf a).getD lin0).code i j = tabE ins0 insC b.code i j) ∧ true = true ∧ oneE a = (0 : Int) ∧ True else true = true ∧ (11 : Nat) = (11 : Nat) ∧ (11 : Nat) ≤ (11 : Nat) ∧ (11 : Nat) ≤ (11 : Nat) ∧ true = true ∧ true = true ∧ true = true ∧ true = true ∧ true = true ∧ true = true ∧ true = true ∧ true = true ∧ true = true ∧ true = true ∧ true = true ∧ ∃ (b : Unit), True ∧ true = true ∧ true = true ∧ ((oneOf a).getD lin0).kind = (0 : Int) ∧ ((oneOf a).getD lin0).n.length = (0 : Nat) ∧ true = true ∧ ((oneOf a).getD lin0).word = (0 : Int) ∧ true = true ∧ ((oneOf a).getD lin0).call.op = (0 : Int) ∧ true = true ∧ ((oneOf a).getD lin0).call.a = (0 : Int) ∧ true = true ∧ ((oneOf a).getD lin0).call.b = (0 : Int) ∧ true = true ∧ ((oneOf a).getD lin0).call.c = (0 : Int) ∧ true = true ∧ ((oneOf a).getD lin0).call.d = (0 : Int) ∧ true = true ∧ ((oneOf a).getD lin0).order = (0 : Int) ∧ ((oneOf a).getD lin0).tasks.length = (0 : Nat) ∧ ((oneOf a).getD lin0).code.length = (0 : Nat) ∧ true = true ∧ oneE a = (21 : Int) ∧ True) (by kernel_rfl) ?_
  try simp only [condP, eq_self, true_and, and_true, and_self, cond_or, cond_and, decide_true, decide_false, imp_self, implies_true, forall_const, exists_const, exists_prop, decide_eq_true_eq, decide_eq_false_iff_not, Bool.and_eq_true, Bool.or_eq_true, Bool.not_eq_true', Bool.not_eq_false', Bool.or_eq_false_iff, Bool.and_eq_false_imp, tdiv_u64, tmod_u64, Int.toNat_natCast, Int.toNat_zero, Int.reduceToNat, Int.reduceAdd, Int.reduceMod, Int.reduceSub, Int.reduceMul, Int.reduceNeg, Int.reduceLT, Int.reduceLE, Int.cast_ofNat_Int, Nat.reduceLT, Nat.reduceLeDiff, Nat.reduceEqDiff, Nat.reduceAdd, Nat.reduceMul, Nat.reduceSub, Nat.reducePow, Nat.le_refl, Int.le_refl, Nat.zero_add, Nat.add_zero, Nat.mul_one, Nat.zero_le, Bool.false_eq_true, Bool.true_eq_false, reduceCtorEq, not_false_eq_true, not_true_eq_false, false_implies, true_implies, Nat.lt_irrefl, Int.lt_irrefl, UInt8.reduceOfNat, UInt8.reduceToNat]
  have hlong : 1000 < a.length → oneOf a = none ∧ oneE a = 28 := fun h => ⟨if_pos h, if_pos h⟩
  have hshort : ¬ 1000 < a.length → oneOf a = lineOf (wordsL a) := fun h => if_neg h
  have hE : ¬ 1000 < a.length → oneE a = if (oneOf a).isSome then 0 else 21 := fun h => if_neg h
  by_cases hl : 1000 < a.length
  · obtain ⟨h1, h2⟩ := hlong hl
    have hl' : 1000 < (a.length : Int) := by omega
    simp only [h1, h2, hl', not_true_eq_false, true_implies, false_implies, and_true]
    exact ⟨rfl, rfl, rfl, rfl, rfl, rfl, rfl, rfl, rfl, rfl, rfl⟩
  · have hw := words_le a
    have hl' : ¬ 1000 < (a.length : Int) := by omega
    refine ⟨fun h => absurd h hl', fun _ => ?_⟩
    rw [hE hl, hshort hl]
    clear hlong hshort hE
    obtain ⟨hw1, hw2⟩ := hw
    generalize wordsL a = L at *
    have hkn : ∀ x : Nat, x + 1 ≤ 17 → nameAt kindL ((x : Int) + 1) = L.getD 0 [] → knd 18 (L.getD 0 []) = (x : Int) + 1 := fun x hx h => by
      rw [show (x : Int) + 1 = ((x + 1 : Nat) : Int) by omega] at h ⊢
      exact knd_of (by omega) (by omega) h
    have hmany : ∀ x : Nat, manyT ((x : Int) + 1) = countT ((x : Int) + 1) := fun x => manyT_of (by omega)
    have hcl : ∀ x : Nat, 1 ≤ countT ((x : Int) + 1) ∧ countT ((x : Int) + 1) ≤ 4 := fun x => countT_le _
    have hwr : ∀ x : Nat, IntKind.i64.wrap (manyT ((x : Int) + 1) + 1) = countT ((x : Int) + 1) + 1 := fun x => by
      have := hcl x
      rw [hmany, w64 (by omega) (by omega)]
    have hno1 : ∀ x : Nat, ↑x + 1 ≤ (17 : Int) ∧ 0 < (L.length : Int) → nameAt kindL ((x : Int) + 1) = L.getD 0 [] → (L.length : Int) < IntKind.i64.wrap (manyT ((x : Int) + 1) + 1) → lineOf L = none := fun x h1 h2 h3 => by
      rw [hwr] at h3
      rw [lineOf_eq (by omega) (hkn x (by omega) h2), if_pos]
      rw [List.length_tail]
      omega
    have hno2 : ∀ x : Nat, (x ≤ 17 ∧ ∀ (j : Nat), 0 < j → j < x + 1 → nameAt kindL ↑j ≠ L.getD 0 []) → (↑x + 1 ≤ (17 : Int) → ¬0 < (L.length : Int)) → lineOf L = none := fun x h1 h2 => by
      by_cases hL : 0 < L.length
      · have hx : x = 17 := by omega
        subst hx
        rw [lineOf_eq hL (knd_zero fun j h3 h4 => h1.2 j h3 (by omega)), if_pos (.inl rfl)]
      · match L, hL with
        | [], _ => rfl
        | _ :: _, hL => exact absurd (by simp) hL
    (repeat' (first | (apply And.intro) | (intro _))) <;> (try simp (disch := omega) only [w64, wu64, wu8, Int.toNat_natCast, toNat_add_one, toNat_one_add] at *) <;> (try (first | (with_reducible rfl) | (with_reducible assumption) | exact True.intro | omega))
    all_goals (try (rename_i x h1 h2 h3 h4; rw [hno1 x h2 h3 h4]; rfl))
    all_goals (try (rename_i x h1 h2; rw [hno2 x h1 h2]; rfl))
    · exact ⟨0, ⟨by omega, fun j h1 h2 => by omega⟩, rfl⟩
    · rename_i x h1 h2 h3
      refine ⟨x + 1, ⟨by omega, fun j h4 h5 => ?_⟩, by omega, by omega⟩
      by_cases hj : j < x + 1
      · exact h1.2 j h4 hj
      · have hj' : (j : Int) = (x : Int) + 1 := by omega
        rw [hj']
        exact h3
    · rename_i x h1 h2 h3 h4
      rw [hwr]
      have := hcl x
      omega
    · rename_i x h1 h2 h3 h4
      have hc := hcl x
      rw [hwr] at h4 ⊢
      have hlt : (L.tail.length : Int) = L.length - 1 := by rw [List.length_tail]; omega
      have hto := lineOf_eq (by omega) (hkn x (by omega) h3)
      rw [if_neg (by rw [hlt]; omega)] at hto
      have hnt : (L.tail.take (countT ((x : Int) + 1)).toNat).length = (countT ((x : Int) + 1)).toNat := by rw [List.length_take]; omega
      refine ⟨L.tail.take (countT ((x : Int) + 1)).toNat, by omega, by omega, fun i j hi hj => ?_, fun h => ?_, fun h => ?_⟩
      · rw [getD_one, getD_take _ _ _ _ (by omega)]
      · rw [if_neg (by rw [h]; decide)] at hto
        rw [hto]
        exact ⟨rfl, rfl, rfl, rfl, rfl, rfl, rfl, rfl, rfl, rfl, rfl, rfl⟩
      · rw [if_pos h] at hto
        have hnl : numsL (L.tail.take (countT ((x : Int) + 1)).toNat) = (L.tail.take (countT ((x : Int) + 1)).toNat).map valW := by unfold numsL; rw [if_pos h]
        rw [hnl]
        refine ⟨⟨by omega, by omega⟩, ⟨by omega, by omega⟩, ((x : Int) + 1, (L.tail.take (countT ((x : Int) + 1)).toNat).map valW, L.tail.drop (countT ((x : Int) + 1)).toNat), ⟨by simp only [List.length_drop]; omega, fun i => by simp only [getD_drop]; rw [← getD_one]; have := hw2 (1 + ((countT ((x : Int) + 1)).toNat + i)); omega⟩, rfl, rfl, fun _ _ _ _ => rfl, by simp only [List.length_drop]; omega, fun i j hi hj => ?_, fun b hb => ⟨fun h => ?_, fun h => ?_⟩⟩
        · simp only [getD_drop]
          rw [show (countT ((x : Int) + 1) + 1).toNat + i = 1 + ((countT ((x : Int) + 1)).toNat + i) by omega, getD_one]
        · have h0 : restOf ((x : Int) + 1) (L.tail.drop (countT ((x : Int) + 1)).toNat) = none := by
            cases e : restOf ((x : Int) + 1) (L.tail.drop (countT ((x : Int) + 1)).toNat) with
            | none => rfl
            | some r => simp only [e] at h; cases h
          rw [hto, h0]
          exact ⟨rfl, rfl, rfl, rfl, rfl, rfl, rfl, rfl, rfl, rfl, rfl, rfl⟩
        · cases e : restOf ((x : Int) + 1) (L.tail.drop (countT ((x : Int) + 1)).toNat) with
          | none => simp only [e] at h; cases h
          | some r =>
            have hbr := hb r e
            subst hbr
            rw [hto, e]
            exact ⟨rfl, rfl, fun _ _ _ _ => rfl, rfl, rfl, rfl, rfl, rfl, rfl, rfl, rfl, fun _ _ _ _ => rfl, rfl, fun _ _ _ _ => rfl, rfl⟩
end Go.Sx.Tryd
namespace Go.Sx.Tryd
open Go Go.Sx
def awakeSpec : Spec := {
  α := Unit
  args _ := []
  ins _ := []
  m := 0
  pre _ := True
  β := Unit
  post _ _ := True
  res _ _ := .r (.c (.bool true))
  outs _ _ := []
  fresh := 0
  inst := fun _ => some () }
def exL : List UInt8 := [111, 112, 101, 110, 32, 32, 49, 32, 101, 100, 102, 32, 50, 47, 57, 47, 57, 47, 97, 98, 111, 114, 116, 58, 48, 46, 48, 46, 49]
theorem exL_one : oneOf exL = some ⟨4, [1], 0, cal0, 0, [⟨2, 9, 9, [⟨0, 0, 1⟩], 0⟩], []⟩ := by kernel_rfl
theorem exL_e : oneE exL = 0 := by kernel_rfl
def numbersSpec : Spec := {
  α := List UInt8 × Int × Int
  args a := [.c (.str a.1), .c (.int .u64 a.2.1), .c (.int .i64 a.2.2)]
  ins _ := []
  m := 0
  pre a := 0 ≤ a.2.1 ∧ a.2.1 < 18446744073709551616
  β := Unit
  post _ _ := True
  res _ _ := .r (.c (.bool true))
  outs _ _ := []
  fresh := 0 }
end Go.Sx.Tryd
namespace Go.Sx.Tryd
open Go Go.Sx Go.Proofs
variable {mx : Int}
set_option linter.unusedSimpArgs false
set_option maxRecDepth 20000
set_option maxHeartbeats 4000000
theorem awake_does : Does Tryd.prog (glS mx) 6 (awakeSpec) := by
  refine Does.of (fn := Tryd.f6) Tryd.func6 rfl ttok (spec := lookS [(21, oneSpec)]) (Known.nil.cons callee21 one_does) (pc := fun _ => true) (PureOk.nil.cons (s := oneSpec) (k := 21) (fun _ _ => rfl)) mixed (awakeSpec) (fun _ _ _ => none) (fun _ => none) 3000 (rs := [.tmp 0]) rfl (n := 51) rfl (by decide) (by kernel_rfl) ?_
  intro (a : Unit) hp
  refine ⟨of_decide_eq_true (by kernel_rfl), ?_⟩
  refine vc_of (Q := True ∧ [(111 : UInt8), (112 : UInt8), (101 : UInt8), (110 : UInt8), (32 : UInt8), (32 : UInt8), (49 : UInt8), (32 : UInt8), (101 : UInt8), (100 : UInt8), (102 : UInt8), (32 : UInt8), (50 : UInt8), (47 : UInt8), (57 : UInt8), (47 : UInt8), (57 : UInt8), (47 : UInt8), (97 : UInt8), (98 : UInt8), (111 : UInt8), (114 : UInt8), (116 : UInt8), (58 : UInt8), (48 : UInt8), (46 : UInt8), (48 : UInt8), (46 : UInt8), (49 : UInt8)] = [(111 : UInt8), (112 : UInt8), (101 : UInt8), (110 : UInt8), (32 : UInt8), (32 : UInt8), (49 : UInt8), (32 : UInt8), (101 : UInt8), (100 : UInt8), (102 : UInt8), (32 : UInt8), (50 : UInt8), (47 : UInt8), (57 : UInt8), (47 : UInt8), (57 : UInt8), (47 : UInt8), (97 : UInt8), (98 : UInt8), (111 : UInt8), (114 : UInt8), (116 : UInt8), (58 : UInt8), (48 : UInt8), (46 : UInt8), (48 : UInt8), (46 : UInt8), (49 : UInt8)] ∧ true = true ∧ ∀ (b : Unit), True → true = true ∧ (11 : Nat) = (11 : Nat) ∧ (11 : Nat) ≤ (11 : Nat) ∧ (true = true → true = true) ∧ (1 : Nat) ≤ (11 : Nat) ∧ true = true ∧ (true = true → true = true) ∧ (true = true → true = true) ∧ (true = true → true = true) ∧ (2 : Nat) ≤ (11 : Nat) ∧ true = true ∧ (true = true → true = true) ∧ (true = true → true = true) ∧ (true = true → true = true) ∧ (true = true → true = true) ∧ (2 : Nat) ≤ (11 : Nat) ∧ true = true ∧ (true = true → true = true) ∧ (true = true → (0 : Int) ≤ (0 : Int) ∧ (0 : Int) < (1 : Int)) ∧ (true = true → true = true) ∧ (true = true → (0 : Nat) < (1 : Nat)) ∧ (1 : Nat) ≤ (1 : Nat) ∧ true = true ∧ (true = true → true = true) ∧ (true = true → true = true) ∧ (true = true → true = true) ∧ (10 : Nat) ≤ (11 : Nat) ∧ true = true ∧ (true = true → true = true) ∧ (true = true → true = true) ∧ (true = true → true = true) ∧ (true = true → true = true) ∧ (10 : Nat) ≤ (11 : Nat) ∧ true = true ∧ (true = true → true = true) ∧ (true = true → (0 : Int) ≤ (0 : Int) ∧ (0 : Int) < (1 : Int)) ∧ (true = true → true = true) ∧ (true = true → true = true) ∧ (true = true → true = true) ∧ (true = true → (0 : Nat) < (1 : Nat)) ∧ (2 : Nat) ≤ (5 : Nat) ∧ true = true ∧ (true = true → true = true) ∧ (true = true → true = true) ∧ (true = true → true = true) ∧ (10 : Nat) ≤ (11 : Nat) ∧ true = true ∧ (true = true → true = true) ∧ (true = true → (0 : Int) ≤ (0 : Int) ∧ (0 : Int) < (1 : Int)) ∧ (true = true → true = true) ∧ (true = true → true = true) ∧ (true = true → (0 : Nat) < (1 : Nat)) ∧ (4 : Nat) ≤ (5 : Nat) ∧ true = true ∧ (true = true → true = true) ∧ (true = true → true = true) ∧ (true = true → true = true) ∧ ∃ (b : Unit), True ∧ true = true ∧ true = true ∧ True) (by kernel_rfl) ?_
  try simp only [condP, eq_self, true_and, and_true, and_self, cond_or, cond_and, decide_true, decide_false, imp_self, implies_true, forall_const, exists_const, exists_prop, decide_eq_true_eq, decide_eq_false_iff_not, Bool.and_eq_true, Bool.or_eq_true, Bool.not_eq_true', Bool.not_eq_false', Bool.or_eq_false_iff, Bool.and_eq_false_imp, tdiv_u64, tmod_u64, Int.toNat_natCast, Int.toNat_zero, Int.reduceToNat, Int.reduceAdd, Int.reduceMod, Int.reduceSub, Int.reduceMul, Int.reduceNeg, Int.reduceLT, Int.reduceLE, Int.cast_ofNat_Int, Nat.reduceLT, Nat.reduceLeDiff, Nat.reduceEqDiff, Nat.reduceAdd, Nat.reduceMul, Nat.reduceSub, Nat.reducePow, Nat.le_refl, Int.le_refl, Nat.zero_add, Nat.add_zero, Nat.mul_one, Nat.zero_le, Bool.false_eq_true, Bool.true_eq_false, reduceCtorEq, not_false_eq_true, not_true_eq_false, false_implies, true_implies, Nat.lt_irrefl, Int.lt_irrefl, UInt8.reduceOfNat, UInt8.reduceToNat]
def numbersInv (a : List UInt8 × Int × Int) : Nat → Option Inv := fun id =>
  bif id == 7 then some { α := Nat, keep := [0, 1, 2, 7, 8, 9, 10, 11, 12], drop := [], env := fun _ x => [(13, .r (.c (.int .i64 x)))], chunks := fun _ _ => [], fresh := 0, pre := fun x => x ≤ (wordsL a.1).length, μ := fun x => (wordsL a.1).length - x } else none
theorem numbers_does : Does Tryd.prog (glS mx) 3 (numbersSpec) := by
  refine Does.of (fn := Tryd.f3) Tryd.func3 rfl ttok (spec := lookS [(6, awakeSpec), (7, numI), (8, numI), (9, wordsI), (10, wordsI), (11, nameI kindL), (12, nameI kindL)]) (((((((Known.nil.cons callee12 rnameI_does).cons callee11 nameI_does).cons callee10 rwordsI_does).cons callee9 wordsI_does).cons callee8 rnumI_does).cons callee7 numI_does).cons callee6 awake_does) (pc := fun _ => true) (((((((PureOk.nil.cons (s := nameI kindL) (k := 12) (fun _ _ => rfl)).cons (s := nameI kindL) (k := 11) (fun _ _ => rfl)).cons (s := wordsI) (k := 10) (fun _ _ => rfl)).cons (s := wordsI) (k := 9) (fun _ _ => rfl)).cons (s := numI) (k := 8) (fun _ _ => rfl)).cons (s := numI) (k := 7) (fun _ _ => rfl)).cons (s := awakeSpec) (k := 6) (fun _ _ => rfl)) mixed (numbersSpec) (fun a id _ => numbersInv a id) (ord3) 3000 (rs := [.tmp 6]) rfl (n := 80) rfl (by decide) (by kernel_rfl) ?_
  intro (a : List UInt8 × Int × Int) hp
  refine ⟨of_decide_eq_true (by kernel_rfl), ?_⟩
  refine vc_of (Q := bif decide ((2000 : Int) < (↑a.fst.length : Int)) then True ∧ true = true ∧ ∀ (b : Unit), True → ∃ (b : Unit), True ∧ true = true ∧ true = true ∧ True else ((0 : Int) ≤ a.snd.fst ∧ a.snd.fst < (18446744073709551616 : Int)) ∧ a.fst = a.fst ∧ true = true ∧ a.snd.fst = a.snd.fst ∧ true = true ∧ ∀ (b : Unit), True → ((0 : Int) ≤ a.snd.fst ∧ a.snd.fst < (18446744073709551616 : Int)) ∧ a.fst = a.fst ∧ true = true ∧ a.snd.fst = a.snd.fst ∧ true = true ∧ ∀ (b : Unit), True → a.fst.length < (4294967281 : Nat) ∧ a.fst = a.fst ∧ true = true ∧ ∀ (b : Unit), True → a.fst.length < (4294967281 : Nat) ∧ a.fst = a.fst ∧ true = true ∧ ∀ (b : Unit), True → (∃ (x : Nat), x ≤ (wordsL a.fst).length ∧ true = true ∧ true = true ∧ (↑x : Int) = (0 : Int) ∧ a.fst = a.fst ∧ true = true ∧ a.snd.fst = a.snd.fst ∧ true = true ∧ a.snd.snd = a.snd.snd ∧ true = true ∧ (numAns a.fst a.snd.fst).fst = (numAns a.fst a.snd.fst).fst ∧ (numAns a.fst a.snd.fst).snd = (numAns a.fst a.snd.fst).snd ∧ true = true ∧ (numAns a.fst a.snd.fst).fst = (numAns a.fst a.snd.fst).fst ∧ (numAns a.fst a.snd.fst).snd = (numAns a.fst a.snd.fst).snd ∧ (0 : Nat) < (2 : Nat) ∧ some (0 : Nat) = some (0 : Nat) ∧ (1 : Nat) < (2 : Nat) ∧ some (1 : Nat) = some (1 : Nat) ∧ (1 : Nat) < (2 : Nat) ∧ (9 : TypeId) = (9 : TypeId) ∧ (1 : Nat) = (1 : Nat) ∧ (wordsL a.fst).length = (wordsL a.fst).length ∧ (∀ (i j : Nat), i < (wordsL a.fst).length → j < (1 : Nat) → CV.str ((wordsL a.fst).getD i []) = CV.str ((wordsL a.fst).getD i [])) ∧ (0 : Nat) < (2 : Nat) ∧ (9 : TypeId) = (9 : TypeId) ∧ (1 : Nat) = (1 : Nat) ∧ (wordsL a.fst).length = (wordsL a.fst).length ∧ (∀ (i j : Nat), i < (wordsL a.fst).length → j < (1 : Nat) → CV.str ((wordsL a.fst).getD i []) = CV.str ((wordsL a.fst).getD i [])) ∧ True) ∧ ∀ (x : Nat), x ≤ (wordsL a.fst).length → (decide ((↑x : Int) < (↑(wordsL a.fst).length : Int)) = true → decide ((↑x : Int) < (↑(wordsL a.fst).length : Int)) = true) ∧ (decide ((↑x : Int) < (↑(wordsL a.fst).length : Int)) = true → decide ((↑x : Int) < (↑(wordsL a.fst).length : Int)) = true) ∧ (decide ((↑x : Int) < (↑(wordsL a.fst).length : Int)) = true → decide ((↑x : Int) < (↑(wordsL a.fst).length : Int)) = true) ∧ (decide ((↑x : Int) < (↑(wordsL a.fst).length : Int)) = true → decide ((↑x : Int) < (↑(wordsL a.fst).length : Int)) = true) ∧ bif bif decide ((↑x : Int) < (↑(wordsL a.fst).length : Int)) then decide ((↑x : Int) < (↑(wordsL a.fst).length : Int)) else false then ((0 : Int) ≤ (↑x : Int) ∧ (↑x : Int) < (↑(wordsL a.fst).length : Int)) ∧ (↑x : Int).toNat < (wordsL a.fst).length ∧ (1 : Nat) = (1 : Nat) ∧ (1 : Nat) ≤ (1 : Nat) ∧ true = true ∧ ((0 : Int) ≤ (↑x : Int) ∧ (↑x : Int) < (↑(wordsL a.fst).length : Int)) ∧ (↑x : Int).toNat < (wordsL a.fst).length ∧ (1 : Nat) = (1 : Nat) ∧ (1 : Nat) ≤ (1 : Nat) ∧ true = true ∧ bif !decide ((wordsL a.fst).getD (↑x : Int).toNat [] = (wordsL a.fst).getD (↑x : Int).toNat []) then ∃ (b : Unit), True ∧ true = true ∧ true = false ∧ True else ∃ (x' : Nat), x' ≤ (wordsL a.fst).length ∧ (wordsL a.fst).length - x' < (wordsL a.fst).length - x ∧ true = true ∧ true = true ∧ (↑x' : Int) = IntKind.i64.wrap ((↑x : Int) + (1 : Int)) ∧ a.fst = a.fst ∧ true = true ∧ a.snd.fst = a.snd.fst ∧ true = true ∧ a.snd.snd = a.snd.snd ∧ true = true ∧ (numAns a.fst a.snd.fst).fst = (numAns a.fst a.snd.fst).fst ∧ (numAns a.fst a.snd.fst).snd = (numAns a.fst a.snd.fst).snd ∧ true = true ∧ (numAns a.fst a.snd.fst).fst = (numAns a.fst a.snd.fst).fst ∧ (numAns a.fst a.snd.fst).snd = (numAns a.fst a.snd.fst).snd ∧ (0 : Nat) < (2 : Nat) ∧ some (0 : Nat) = some (0 : Nat) ∧ (1 : Nat) < (2 : Nat) ∧ some (1 : Nat) = some (1 : Nat) ∧ (1 : Nat) < (2 : Nat) ∧ (9 : TypeId) = (9 : TypeId) ∧ (1 : Nat) = (1 : Nat) ∧ (wordsL a.fst).length = (wordsL a.fst).length ∧ (∀ (i j : Nat), i < (wordsL a.fst).length → j < (1 : Nat) → CV.str ((wordsL a.fst).getD i []) = CV.str ((wordsL a.fst).getD i [])) ∧ (0 : Nat) < (2 : Nat) ∧ (9 : TypeId) = (9 : TypeId) ∧ (1 : Nat) = (1 : Nat) ∧ (wordsL a.fst).length = (wordsL a.fst).length ∧ (∀ (i j : Nat), i < (wordsL a.fst).length → j < (1 : Nat) → CV.str ((wordsL a.fst).getD i []) = CV.str ((wordsL a.fst).getD i [])) ∧ True else (decide ((numAns a.fst a.snd.fst).fst = (numAns a.fst a.snd.fst).fst) = true → decide ((numAns a.fst a.snd.fst).fst = (numAns a.fst a.snd.fst).fst) = true) ∧ (decide ((numAns a.fst a.snd.fst).fst = (numAns a.fst a.snd.fst).fst) = true → decide ((numAns a.fst a.snd.fst).fst = (numAns a.fst a.snd.fst).fst) = true) ∧ (decide ((numAns a.fst a.snd.fst).fst = (numAns a.fst a.snd.fst).fst) = true → decide ((numAns a.fst a.snd.fst).fst = (numAns a.fst a.snd.fst).fst) = true) ∧ ((bif decide ((numAns a.fst a.snd.fst).fst = (numAns a.fst a.snd.fst).fst) then (numAns a.fst a.snd.fst).snd == (numAns a.fst a.snd.fst).snd else false) = true → (bif decide ((numAns a.fst a.snd.fst).fst = (numAns a.fst a.snd.fst).fst) then (numAns a.fst a.snd.fst).snd == (numAns a.fst a.snd.fst).snd else false) = true) ∧ ((bif decide ((numAns a.fst a.snd.fst).fst = (numAns a.fst a.snd.fst).fst) then (numAns a.fst a.snd.fst).snd == (numAns a.fst a.snd.fst).snd else false) = true → (bif decide ((numAns a.fst a.snd.fst).fst = (numAns a.fst a.snd.fst).fst) then (numAns a.fst a.snd.fst).snd == (numAns a.fst a.snd.fst).snd else false) = true) ∧ ((bif decide ((numAns a.fst a.snd.fst).fst = (numAns a.fst a.snd.fst).fst) then (numAns a.fst a.snd.fst).snd == (numAns a.fst a.snd.fst).snd else false) = true → (bif decide ((numAns a.fst a.snd.fst).fst = (numAns a.fst a.snd.fst).fst) then (numAns a.fst a.snd.fst).snd == (numAns a.fst a.snd.fst).snd else false) = true) ∧ ((bif decide ((numAns a.fst a.snd.fst).fst = (numAns a.fst a.snd.fst).fst) then (numAns a.fst a.snd.fst).snd == (numAns a.fst a.snd.fst).snd else false) = true → (bif decide ((numAns a.fst a.snd.fst).fst = (numAns a.fst a.snd.fst).fst) then (numAns a.fst a.snd.fst).snd == (numAns a.fst a.snd.fst).snd else false) = true) ∧ ((bif decide ((numAns a.fst a.snd.fst).fst = (numAns a.fst a.snd.fst).fst) then (numAns a.fst a.snd.fst).snd == (numAns a.fst a.snd.fst).snd else false) = true → (bif decide ((numAns a.fst a.snd.fst).fst = (numAns a.fst a.snd.fst).fst) then (numAns a.fst a.snd.fst).snd == (numAns a.fst a.snd.fst).snd else false) = true) ∧ bif bif bif decide ((numAns a.fst a.snd.fst).fst = (numAns a.fst a.snd.fst).fst) then (numAns a.fst a.snd.fst).snd == (numAns a.fst a.snd.fst).snd else false then decide ((↑(wordsL a.fst).length : Int) = (↑(wordsL a.fst).length : Int)) else false then ((bif bif decide ((numAns a.fst a.snd.fst).fst = (numAns a.fst a.snd.fst).fst) then (numAns a.fst a.snd.fst).snd == (numAns a.fst a.snd.fst).snd else false then decide ((↑(wordsL a.fst).length : Int) = (↑(wordsL a.fst).length : Int)) else false) = true → (bif bif decide ((numAns a.fst a.snd.fst).fst = (numAns a.fst a.snd.fst).fst) then (numAns a.fst a.snd.fst).snd == (numAns a.fst a.snd.fst).snd else false then decide ((↑(wordsL a.fst).length : Int) = (↑(wordsL a.fst).length : Int)) else false) = true) ∧ True ∧ true = true ∧ a.snd.snd = a.snd.snd ∧ true = true ∧ ∀ (b : Unit), True → bif bif bif decide ((numAns a.fst a.snd.fst).fst = (numAns a.fst a.snd.fst).fst) then (numAns a.fst a.snd.fst).snd == (numAns a.fst a.snd.fst).snd else false then decide ((↑(wordsL a.fst).length : Int) = (↑(wordsL a.fst).length : Int)) else false then ((bif bif decide ((numAns a.fst a.snd.fst).fst = (numAns a.fst a.snd.fst).fst) then (numAns a.fst a.snd.fst).snd == (numAns a.fst a.snd.fst).snd else false then decide ((↑(wordsL a.fst).length : Int) = (↑(wordsL a.fst).length : Int)) else false) = true → (bif bif decide ((numAns a.fst a.snd.fst).fst = (numAns a.fst a.snd.fst).fst) then (numAns a.fst a.snd.fst).snd == (numAns a.fst a.snd.fst).snd else false then decide ((↑(wordsL a.fst).length : Int) = (↑(wordsL a.fst).length : Int)) else false) = true) ∧ True ∧ true = true ∧ a.snd.snd = a.snd.snd ∧ true = true ∧ ∀ (b : Unit), True → ((bif bif decide ((numAns a.fst a.snd.fst).fst = (numAns a.fst a.snd.fst).fst) then (numAns a.fst a.snd.fst).snd == (numAns a.fst a.snd.fst).snd else false then decide ((↑(wordsL a.fst).length : Int) = (↑(wordsL a.fst).length : Int)) else false) = true → (bif bif decide ((numAns a.fst a.snd.fst).fst = (numAns a.fst a.snd.fst).fst) then (numAns a.fst a.snd.fst).snd == (numAns a.fst a.snd.fst).snd else false then decide ((↑(wordsL a.fst).length : Int) = (↑(wordsL a.fst).length : Int)) else false) = true) ∧ bif bif bif bif decide ((numAns a.fst a.snd.fst).fst = (numAns a.fst a.snd.fst).fst) then (numAns a.fst a.snd.fst).snd == (numAns a.fst a.snd.fst).snd else false then decide ((↑(wordsL a.fst).length : Int) = (↑(wordsL a.fst).length : Int)) else false then decide (nameAt kindL a.snd.snd = nameAt kindL a.snd.snd) else false then True ∧ true = true ∧ ∀ (b : Unit), True → ∃ (b : Unit), True ∧ true = true ∧ (true = bif bif bif bif decide ((numAns a.fst a.snd.fst).fst = (numAns a.fst a.snd.fst).fst) then (numAns a.fst a.snd.fst).snd == (numAns a.fst a.snd.fst).snd else false then decide ((↑(wordsL a.fst).length : Int) = (↑(wordsL a.fst).length : Int)) else false then decide (nameAt kindL a.snd.snd = nameAt kindL a.snd.snd) else false then true else false) ∧ True else (bif bif bif decide ((numAns a.fst a.snd.fst).fst = (numAns a.fst a.snd.fst).fst) then (numAns a.fst a.snd.fst).snd == (numAns a.fst a.snd.fst).snd else false then decide ((↑(wordsL a.fst).length : Int) = (↑(wordsL a.fst).length : Int)) else false then decide (nameAt kindL a.snd.snd = nameAt kindL a.snd.snd) else false) = false ∧ ∃ (b : Unit), True ∧ true = true ∧ true = false ∧ True else (bif bif decide ((numAns a.fst a.snd.fst).fst = (numAns a.fst a.snd.fst).fst) then (numAns a.fst a.snd.fst).snd == (numAns a.fst a.snd.fst).snd else false then decide ((↑(wordsL a.fst).length : Int) = (↑(wordsL a.fst).length : Int)) else false) = false ∧ (bif bif decide ((numAns a.fst a.snd.fst).fst = (numAns a.fst a.snd.fst).fst) then (numAns a.fst a.snd.fst).snd == (numAns a.fst a.snd.fst).snd else false then decide ((↑(wordsL a.fst).length : Int) = (↑(wordsL a.fst).length : Int)) else false) = false ∧ false = false ∧ ∃ (b : Unit), True ∧ true = true ∧ true = false ∧ True else bif bif bif decide ((numAns a.fst a.snd.fst).fst = (numAns a.fst a.snd.fst).fst) then (numAns a.fst a.snd.fst).snd == (numAns a.fst a.snd.fst).snd else false then decide ((↑(wordsL a.fst).length : Int) = (↑(wordsL a.fst).length : Int)) else false then ((bif bif decide ((numAns a.fst a.snd.fst).fst = (numAns a.fst a.snd.fst).fst) then (numAns a.fst a.snd.fst).snd == (numAns a.fst a.snd.fst).snd else false then decide ((↑(wordsL a.fst).length : Int) = (↑(wordsL a.fst).length : Int)) else false) = true → (bif bif decide ((numAns a.fst a.snd.fst).fst = (numAns a.fst a.snd.fst).fst) then (numAns a.fst a.snd.fst).snd == (numAns a.fst a.snd.fst).snd else false then decide ((↑(wordsL a.fst).length : Int) = (↑(wordsL a.fst).length : Int)) else false) = true) ∧ True ∧ true = true ∧ a.snd.snd = a.snd.snd ∧ true = true ∧ ∀ (b : Unit), True → (bif bif decide ((numAns a.fst a.snd.fst).fst = (numAns a.fst a.snd.fst).fst) then (numAns a.fst a.snd.fst).snd == (numAns a.fst a.snd.fst).snd else false then decide ((↑(wordsL a.fst).length : Int) = (↑(wordsL a.fst).length : Int)) else false) = false ∧ (bif bif decide ((numAns a.fst a.snd.fst).fst = (numAns a.fst a.snd.fst).fst) then (numAns a.fst a.snd.fst).snd == (numAns a.fst a.snd.fst).snd else false then decide ((↑(wordsL a.fst).length : Int) = (↑(wordsL a.fst).length : Int)) else false) = false ∧ false = false ∧ ∃ (b : Unit), True ∧ true = true ∧ true = false ∧ True else (bif bif decide ((numAns a.fst a.snd.fst).fst = (numAns a.fst a.snd.fst).fst) then (numAns a.fst a.snd.fst).snd == (numAns a.fst a.snd.fst).snd else false then decide ((↑(wordsL a.fst).length : Int) = (↑(wordsL a.fst).length : Int)) else false) = false ∧ (bif bif decide ((numAns a.fst a.snd.fst).fst = (numAns a.fst a.snd.fst).fst) then (numAns a.fst a.snd.fst).snd == (numAns a.fst a.snd.fst).snd else false then decide ((↑(wordsL a.fst).length : Int) = (↑(wordsL a.fst).length : Int)) else false) = false ∧ false = false ∧ ∃ (b : Unit), True ∧ true = true ∧ true = false ∧ True) (by kernel_rfl) ?_
  try simp only [condP, eq_self, true_and, and_true, and_self, cond_or, cond_and, decide_true, decide_false, imp_self, implies_true, forall_const, exists_const, exists_prop, decide_eq_true_eq, decide_eq_false_iff_not, Bool.and_eq_true, Bool.or_eq_true, Bool.not_eq_true', Bool.not_eq_false', Bool.or_eq_false_iff, Bool.and_eq_false_imp, tdiv_u64, tmod_u64, Int.toNat_natCast, Int.toNat_zero, Int.reduceToNat, Int.reduceAdd, Int.reduceMod, Int.reduceSub, Int.reduceMul, Int.reduceNeg, Int.reduceLT, Int.reduceLE, Int.cast_ofNat_Int, Nat.reduceLT, Nat.reduceLeDiff, Nat.reduceEqDiff, Nat.reduceAdd, Nat.reduceMul, Nat.reduceSub, Nat.reducePow, Nat.le_refl, Int.le_refl, Nat.zero_add, Nat.add_zero, Nat.mul_one, Nat.zero_le, Bool.false_eq_true, Bool.true_eq_false, reduceCtorEq, not_false_eq_true, not_true_eq_false, false_implies, true_implies, Nat.lt_irrefl, Int.lt_irrefl, UInt8.reduceOfNat, UInt8.reduceToNat]
  obtain ⟨s, m, k⟩ := a
  have hp : 0 ≤ m ∧ m < 18446744073709551616 := hp
  have hw := (words_le s).1
  simp only [beq_self_eq_true, Bool.and_self, Bool.true_and, Bool.and_true, true_implies, not_true_eq_false, false_implies, and_true, true_and, Bool.false_eq_true, Bool.true_eq_false, reduceCtorEq]
  (repeat' (first | (apply And.intro) | (intro _))) <;> (try simp (disch := omega) only [w64, wu64, wu8, Int.toNat_natCast, toNat_add_one, toNat_one_add] at *) <;> (try (first | (with_reducible rfl) | (with_reducible assumption) | exact True.intro | omega))
  · exact ⟨0, Nat.zero_le _, rfl⟩
  · rename_i x h1 h2
    exact ⟨x + 1, by omega, by omega, by omega⟩
end Go.Sx.Tryd
namespace Go.Sx.Tryd
open Go Go.Sx Go.Proofs
variable {mx : Int}
set_option linter.unusedSimpArgs false
set_option maxRecDepth 20000
set_option maxHeartbeats 4000000
def prefSpec : Spec := {
  α := List UInt8 × List UInt8
  args a := [.c (.str a.1), .c (.str a.2)]
  ins _ := []
  m := 0
  pre _ := True
  β := Unit
  post _ _ := True
  res a _ := .r (.c (.bool (a.2.isPrefixOf a.1)))
  outs _ _ := []
  fresh := 0
  inst := fun vs => match vs with | [.c (.str s), .c (.str t)] => some (s, t) | _ => none }
theorem callee37 : Callee Tryd.prog 37 := ⟨Tryd.f37, Tryd.func37, by rfl, by rfl⟩
theorem pref_iff (s t : List UInt8) : t.isPrefixOf s = (decide (t.length ≤ s.length) && decide (s.take t.length = t)) := by
  rw [Bool.eq_iff_iff, List.isPrefixOf_iff_prefix, List.prefix_iff_eq_take]
  simp only [Bool.and_eq_true, decide_eq_true_eq]
  constructor
  · intro h
    refine ⟨?_, h.symm⟩
    have := congrArg List.length h
    rw [List.length_take] at this
    omega
  · exact fun h => h.2.symm
theorem pref_does : Does Tryd.prog (glS mx) 37 (prefSpec) := by
  refine Does.of (fn := Tryd.f37) Tryd.func37 rfl ttok (spec := lookS []) Known.nil (pc := fun _ => true) PureOk.nil mixed (prefSpec) (fun _ _ _ => none) (fun _ => none) 3000 (rs := [.tmp 4]) rfl (n := 18) rfl (by decide) (by kernel_rfl) ?_
  intro (a : List UInt8 × List UInt8) hp
  refine ⟨of_decide_eq_true (by kernel_rfl), ?_⟩
  refine vc_of (Q := (decide ((↑a.snd.length : Int) ≤ (↑a.fst.length : Int)) = true → decide ((↑a.snd.length : Int) ≤ (↑a.fst.length : Int)) = true) ∧ (decide ((↑a.snd.length : Int) ≤ (↑a.fst.length : Int)) = true → decide ((↑a.snd.length : Int) ≤ (↑a.fst.length : Int)) = true) ∧ (decide ((↑a.snd.length : Int) ≤ (↑a.fst.length : Int)) = true → decide ((↑a.snd.length : Int) ≤ (↑a.fst.length : Int)) = true) ∧ (decide ((↑a.snd.length : Int) ≤ (↑a.fst.length : Int)) = true → (0 : Int) ≤ (0 : Int) ∧ (0 : Int) ≤ (↑a.snd.length : Int) ∧ (↑a.snd.length : Int) ≤ (↑a.fst.length : Int)) ∧ (decide ((↑a.snd.length : Int) ≤ (↑a.fst.length : Int)) = true → decide ((↑a.snd.length : Int) ≤ (↑a.fst.length : Int)) = true) ∧ (decide ((↑a.snd.length : Int) ≤ (↑a.fst.length : Int)) = true → decide ((↑a.snd.length : Int) ≤ (↑a.fst.length : Int)) = true) ∧ (decide ((↑a.snd.length : Int) ≤ (↑a.fst.length : Int)) = true → decide ((↑a.snd.length : Int) ≤ (↑a.fst.length : Int)) = true) ∧ ∃ (b : Unit), True ∧ true = true ∧ (a.snd.isPrefixOf a.fst = bif decide ((↑a.snd.length : Int) ≤ (↑a.fst.length : Int)) then decide (List.drop (0 : Nat) (List.take (↑a.snd.length : Int).toNat a.fst) = a.snd) else false) ∧ True) (by kernel_rfl) ?_
  try simp only [condP, eq_self, true_and, and_true, and_self, cond_or, cond_and, decide_true, decide_false, imp_self, implies_true, forall_const, exists_const, exists_prop, decide_eq_true_eq, decide_eq_false_iff_not, Bool.and_eq_true, Bool.or_eq_true, Bool.not_eq_true', Bool.not_eq_false', Bool.or_eq_false_iff, Bool.and_eq_false_imp, tdiv_u64, tmod_u64, Int.toNat_natCast, Int.toNat_zero, Int.reduceToNat, Int.reduceAdd, Int.reduceMod, Int.reduceSub, Int.reduceMul, Int.reduceNeg, Int.reduceLT, Int.reduceLE, Int.cast_ofNat_Int, Nat.reduceLT, Nat.reduceLeDiff, Nat.reduceEqDiff, Nat.reduceAdd, Nat.reduceMul, Nat.reduceSub, Nat.reducePow, Nat.le_refl, Int.le_refl, Nat.zero_add, Nat.add_zero, Nat.mul_one, Nat.zero_le, Bool.false_eq_true, Bool.true_eq_false, reduceCtorEq, not_false_eq_true, not_true_eq_false, false_implies, true_implies, Nat.lt_irrefl, Int.lt_irrefl, UInt8.reduceOfNat, UInt8.reduceToNat]
  obtain ⟨s, t⟩ := a
  simp only [pref_iff]
  (repeat' (first | (apply And.intro) | (intro _))) <;> (try simp (disch := omega) only [w64, wu64, wu8, Int.toNat_natCast, toNat_add_one, toNat_one_add] at *) <;> (try (first | (with_reducible rfl) | (with_reducible assumption) | exact True.intro | omega))
  simp only [List.drop_zero, Int.ofNat_le]
theorem hasPrefix_does : Does Tryd.prog (glS mx) 24 (prefSpec) := by
  refine Does.of (fn := Tryd.f24) Tryd.func24 rfl ttok (spec := lookS [(37, prefSpec)]) (Known.nil.cons callee37 pref_does) (pc := fun _ => true) (PureOk.nil.cons (s := prefSpec) (k := 37) (fun _ _ => rfl)) mixed (prefSpec) (fun _ _ _ => none) (fun _ => none) 3000 (rs := [.tmp 4]) rfl (n := 8) rfl (by decide) (by kernel_rfl) ?_
  intro (a : List UInt8 × List UInt8) hp
  refine ⟨of_decide_eq_true (by kernel_rfl), ?_⟩
  refine vc_of (Q := True ∧ a.fst = a.fst ∧ a.snd = a.snd ∧ true = true ∧ ∀ (b : Unit), True → ∃ (b : Unit), True ∧ true = true ∧ a.snd.isPrefixOf a.fst = a.snd.isPrefixOf a.fst ∧ True) (by kernel_rfl) ?_
  try simp only [condP, eq_self, true_and, and_true, and_self, cond_or, cond_and, decide_true, decide_false, imp_self, implies_true, forall_const, exists_const, exists_prop, decide_eq_true_eq, decide_eq_false_iff_not, Bool.and_eq_true, Bool.or_eq_true, Bool.not_eq_true', Bool.not_eq_false', Bool.or_eq_false_iff, Bool.and_eq_false_imp, tdiv_u64, tmod_u64, Int.toNat_natCast, Int.toNat_zero, Int.reduceToNat, Int.reduceAdd, Int.reduceMod, Int.reduceSub, Int.reduceMul, Int.reduceNeg, Int.reduceLT, Int.reduceLE, Int.cast_ofNat_Int, Nat.reduceLT, Nat.reduceLeDiff, Nat.reduceEqDiff, Nat.reduceAdd, Nat.reduceMul, Nat.reduceSub, Nat.reducePow, Nat.le_refl, Int.le_refl, Nat.zero_add, Nat.add_zero, Nat.mul_one, Nat.zero_le, Bool.false_eq_true, Bool.true_eq_false, reduceCtorEq, not_false_eq_true, not_true_eq_false, false_implies, true_implies, Nat.lt_irrefl, Int.lt_irrefl, UInt8.reduceOfNat, UInt8.reduceToNat]
end Go.Sx.Tryd
