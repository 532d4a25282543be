/- A part of the proof of the theorem in the last text of this folder: a symbolic executor over the model, and contracts of functions. -/
import Derived.Test.YtacnlglmldplbaaDoorE
set_option linter.unusedSimpArgs false
set_option linter.unusedVariables false
namespace Go.Sx.Tryd
open Go Go.Sx
/-- The place of a name. -/
def opIx (l : List (List UInt8)) (w : List UInt8) : Option Nat := l.findIdx? (fun x => decide (x = w))
/-- The place of a name among the first ones; below 0: there is none. -/
def opTo (l : List (List UInt8)) (k : Nat) (w : List UInt8) : Int := match opIx l w with
  | some i => if i < k then i else -1
  | none => -1
theorem opIx_some {l : List (List UInt8)} {w : List UInt8} {i : Nat} (h : opIx l w = some i) : i < l.length ∧ l.getD i [] = w ∧ ∀ j, j < i → l.getD j [] ≠ w := by
  unfold opIx at h
  rw [List.findIdx?_eq_some_iff_getElem] at h
  obtain ⟨h1, h2, h3⟩ := h
  refine ⟨h1, by simpa [h1] using of_decide_eq_true h2, fun j hj => ?_⟩
  have hl : j < l.length := by omega
  have := h3 j hj
  simpa [hl] using this
theorem opIx_none {l : List (List UInt8)} {w : List UInt8} (h : opIx l w = none) : ∀ j, j < l.length → l.getD j [] ≠ w := by
  unfold opIx at h
  rw [List.findIdx?_eq_none_iff] at h
  intro j hj
  have := h l[j] (List.getElem_mem hj)
  simpa [hj] using this
theorem opIx_first {l : List (List UInt8)} {w : List UInt8} {k : Nat} (hk : k < l.length) (h : l.getD k [] = w) (hb : ∀ j, j < k → l.getD j [] ≠ w) : opIx l w = some k := by
  match e : opIx l w with
  | none => exact absurd h (opIx_none e k hk)
  | some i =>
    obtain ⟨h1, h2, h3⟩ := opIx_some e
    have : ¬ i < k := fun hlt => hb i hlt h2
    have : ¬ k < i := fun hlt => h3 k hlt h
    rw [show i = k by omega]
theorem opIx_of_at {l : List (List UInt8)} (hnd : l.Nodup) {w : List UInt8} {k : Nat} (hk : k < l.length) (h : l.getD k [] = w) : opIx l w = some k := by
  refine opIx_first hk h fun j hj e => ?_
  have hl : j < l.length := by omega
  have e1 : l[j] = l[k] := by
    have a1 : l.getD j [] = l[j] := by simp [hl]
    have a2 : l.getD k [] = l[k] := by simp [hk]
    rw [← a1, ← a2, e, h]
  have := (List.getElem_inj hnd).1 e1
  omega
theorem opTo_hit {l : List (List UInt8)} (hnd : l.Nodup) {k : Nat} {w : List UInt8} (hk : k < l.length) (h : nameAt l k = w) : opTo l (k + 1) w = k := by
  rw [nameAt_in (by omega), Int.toNat_natCast] at h
  unfold opTo
  rw [opIx_of_at hnd hk h]
  simp
theorem opTo_miss {l : List (List UInt8)} {k : Nat} {w : List UInt8} (hk : k < l.length) (h : ¬ nameAt l k = w) : opTo l (k + 1) w = opTo l k w := by
  rw [nameAt_in (by omega), Int.toNat_natCast] at h
  unfold opTo
  split
  · rename_i i e
    obtain ⟨h1, h2, h3⟩ := opIx_some e
    have : i ≠ k := fun e => h (e ▸ h2)
    by_cases hi : i < k
    · rw [if_pos (by omega), if_pos hi]
    · rw [if_neg (by omega), if_neg hi]
  · rfl
theorem opTo_zero (l : List (List UInt8)) (w : List UInt8) : opTo l 0 w = -1 := by
  unfold opTo
  split <;> rfl
theorem opTo_all {l : List (List UInt8)} {w : List UInt8} {n : Nat} (hn : l.length = n) : opTo l n w = match opIx l w with | some i => (i : Int) | none => -1 := by
  subst hn
  unfold opTo
  split
  · rename_i i e
    simp [(opIx_some e).1]
  · rfl

def okI (w : List UInt8) : Bool := (numAns w 17592186044415).2
def valI (w : List UInt8) : Int := (numAns w 17592186044415).1
theorem okI_def (w : List UInt8) : (numAns w 17592186044415).snd = okI w := Eq.mp rfl (Eq.refl (okI w))
theorem valI_def (w : List UInt8) : (numAns w 17592186044415).fst = valI w := Eq.mp rfl (Eq.refl (valI w))
def setL (i : Ins) (c : UInt8) (n : Int) : Ins := if c = 65 then { i with a := n } else if c = 66 then { i with b := n } else if c = 67 then { i with c := n } else if c = 78 then { i with n := n } else i
/-- An instruction with its first numbers. -/
def insTo (op : Int) (ws : List (List UInt8)) : Nat → Ins
  | 0 => ⟨op, 0, 0, 0, 0⟩
  | k + 1 => setL (insTo op ws k) ((instT op).getD k 0) (valI (ws.getD k []))
def instOf (s : List UInt8) : Option Ins := match opIx instL ((cutL 46 s).headD []) with
  | none => none
  | some op => if (cutL 46 s).length = 1 + (instT op).length ∧ (cutL 46 s).tail.all okI = true ∧ insRight (insTo op (cutL 46 s).tail (instT op).length) = true then some (insTo op (cutL 46 s).tail (instT op).length) else none
def instSpec : Spec := {
  α := List UInt8
  args a := [.c (.str a)]
  ins _ := []
  m := 0
  pre a := a.length < 4294967281
  β := Ins
  post a b := ∀ t, instOf a = some t → b = t
  res a b := .tup [.agg (insC b), .c (.bool (instOf a).isSome)]
  outs _ _ := []
  fresh := 0
  inst := fun vs => match vs with | [.c (.str s)] => some s | _ => none }

def setC (i : Cal) (c : UInt8) (n : Int) : Cal := if c = 65 then { i with a := n } else if c = 66 then { i with b := n } else if c = 67 then { i with c := n } else if c = 68 then { i with d := n } else i
def calTo (op : Int) (ws : List (List UInt8)) : Nat → Cal
  | 0 => ⟨op, 0, 0, 0, 0⟩
  | k + 1 => setC (calTo op ws k) ((callT op).getD k 0) (valW (ws.getD k []))
def callOf (l : List (List UInt8)) : Option Cal := match l with
  | [] => none
  | w :: ws => match opIx callL w with
    | none => none
    | some op => if ws.length = (callT op).length ∧ ws.all okW = true ∧ calRight (calTo op ws (callT op).length) = true then some (calTo op ws (callT op).length) else none
theorem instL_nodup : instL.Nodup := by decide
theorem callL_nodup : callL.Nodup := by decide
theorem kindL_nodup : kindL.Nodup := by decide
/-- The letters are all ones that there are. -/
theorem instT_lets (k : Int) : ∀ c ∈ instT k, c = 65 ∨ c = 66 ∨ c = 67 ∨ c = 78 := by
  unfold instT
  repeat' split
  all_goals decide
theorem callT_lets (k : Int) : ∀ c ∈ callT k, c = 65 ∨ c = 66 ∨ c = 67 ∨ c = 68 := by
  unfold callT
  repeat' split
  all_goals decide
theorem instT_lt (k : Int) (i : Nat) (h : i < (instT k).length) : (instT k).getD i 0 = 65 ∨ (instT k).getD i 0 = 66 ∨ (instT k).getD i 0 = 67 ∨ (instT k).getD i 0 = 78 := instT_lets k _ (mem_getD h)
theorem callT_lt (k : Int) (i : Nat) (h : i < (callT k).length) : (callT k).getD i 0 = 65 ∨ (callT k).getD i 0 = 66 ∨ (callT k).getD i 0 = 67 ∨ (callT k).getD i 0 = 68 := callT_lets k _ (mem_getD h)
theorem insTo_op (op : Int) (ws : List (List UInt8)) : ∀ k, (insTo op ws k).op = op
  | 0 => rfl
  | k + 1 => by
    have := insTo_op op ws k
    unfold insTo setL
    repeat' split
    all_goals exact this
theorem calTo_op (op : Int) (ws : List (List UInt8)) : ∀ k, (calTo op ws k).op = op
  | 0 => rfl
  | k + 1 => by
    have := calTo_op op ws k
    unfold calTo setC
    repeat' split
    all_goals exact this
end Go.Sx.Tryd
namespace Go.Sx.Tryd
open Go Go.Sx
theorem wrapS {n : Int} (h1 : -9223372036854775808 ≤ n) (h2 : n < 9223372036854775808) : (n + 9223372036854775808) % 18446744073709551616 - 9223372036854775808 = n := by omega
theorem valI_le (w : List UInt8) : 0 ≤ valI w ∧ valI w ≤ 17592186044415 := numAns_le w _ (by decide)
theorem valW_le (w : List UInt8) : 0 ≤ valW w ∧ valW w ≤ 1099511627776 := numAns_le w _ (by decide)
theorem valI_wrap (w : List UInt8) : (valI w + 9223372036854775808) % 18446744073709551616 - 9223372036854775808 = valI w := by
  have := valI_le w; omega
theorem toNat_eq {c d : UInt8} (h : (c.toNat : Int) = d.toNat) : c = d := UInt8.toNat_inj.1 (by omega)
theorem instT_len3 (k : Int) : (instT k).length ≤ 3 := by
  unfold instT
  repeat' split
  all_goals decide
theorem callT_len4 (k : Int) : (callT k).length ≤ 4 := by
  unfold callT
  repeat' split
  all_goals decide
theorem instOf_cons {a w : List UInt8} {ws : List (List UInt8)} (hc : cutL 46 a = w :: ws) {i : Nat} (h : opTo instL 19 w = i) (h2 : ws.length = (instT i).length) (h3 : ws.all okI = true) (h4 : insRight (insTo i ws (instT i).length) = true) : instOf a = some (insTo i ws (instT i).length) := by
  unfold instOf
  rw [hc]
  rw [opTo_all (n := 19) rfl] at h
  simp only [List.headD_cons, List.length_cons, List.tail_cons]
  split at h
  · rename_i j e
    rw [e]
    have : j = i := by omega
    subst this
    exact if_pos ⟨by show ws.length + 1 = _; omega, h3, h4⟩
  · omega
theorem instOf_no {a w : List UInt8} {ws : List (List UInt8)} (hc : cutL 46 a = w :: ws) (h : opTo instL 19 w < 0 ∨ ¬ ws.length = (instT (opTo instL 19 w)).length ∨ ws.all okI = false ∨ insRight (insTo (opTo instL 19 w) ws (instT (opTo instL 19 w)).length) = false) : instOf a = none := by
  unfold instOf
  rw [hc]
  rw [opTo_all (n := 19) rfl] at h
  simp only [List.headD_cons, List.length_cons, List.tail_cons]
  split
  · rfl
  · rename_i j e
    rw [e] at h
    simp only at h
    refine if_neg ?_
    rintro ⟨h1, h2, h3⟩
    have h1 : ws.length + 1 = _ := h1
    have h2 : ws.all okI = true := h2
    have h3 : insRight (insTo j ws (instT j).length) = true := h3
    rcases h with h | h | h | h
    · omega
    · omega
    · rw [h2] at h; cases h
    · rw [h3] at h; cases h
end Go.Sx.Tryd
namespace Go.Sx.Tryd
open Go Go.Sx
theorem insTo_65 {op : Int} {ws : List (List UInt8)} {k : Nat} (h : (instT op).getD k 0 = 65) : insTo op ws (k + 1) = { insTo op ws k with a := valI (ws.getD k []) } := by
  show setL _ _ _ = _
  rw [h]
  rfl
theorem insTo_66 {op : Int} {ws : List (List UInt8)} {k : Nat} (h : (instT op).getD k 0 = 66) : insTo op ws (k + 1) = { insTo op ws k with b := valI (ws.getD k []) } := by
  show setL _ _ _ = _
  rw [h]
  rfl
theorem insTo_67 {op : Int} {ws : List (List UInt8)} {k : Nat} (h : (instT op).getD k 0 = 67) : insTo op ws (k + 1) = { insTo op ws k with c := valI (ws.getD k []) } := by
  show setL _ _ _ = _
  rw [h]
  rfl
theorem insTo_78 {op : Int} {ws : List (List UInt8)} {k : Nat} (h : (instT op).getD k 0 = 78) : insTo op ws (k + 1) = { insTo op ws k with n := valI (ws.getD k []) } := by
  show setL _ _ _ = _
  rw [h]
  rfl
theorem calTo_65 {op : Int} {ws : List (List UInt8)} {k : Nat} (h : (callT op).getD k 0 = 65) : calTo op ws (k + 1) = { calTo op ws k with a := valW (ws.getD k []) } := by
  show setC _ _ _ = _
  rw [h]
  rfl
theorem calTo_66 {op : Int} {ws : List (List UInt8)} {k : Nat} (h : (callT op).getD k 0 = 66) : calTo op ws (k + 1) = { calTo op ws k with b := valW (ws.getD k []) } := by
  show setC _ _ _ = _
  rw [h]
  rfl
theorem calTo_67 {op : Int} {ws : List (List UInt8)} {k : Nat} (h : (callT op).getD k 0 = 67) : calTo op ws (k + 1) = { calTo op ws k with c := valW (ws.getD k []) } := by
  show setC _ _ _ = _
  rw [h]
  rfl
theorem calTo_68 {op : Int} {ws : List (List UInt8)} {k : Nat} (h : (callT op).getD k 0 = 68) : calTo op ws (k + 1) = { calTo op ws k with d := valW (ws.getD k []) } := by
  show setC _ _ _ = _
  rw [h]
  rfl
end Go.Sx.Tryd
namespace Go.Sx
theorem w64 {n : Int} (h1 : -9223372036854775808 ≤ n) (h2 : n < 9223372036854775808) : IntKind.i64.wrap n = n := by rw [wrap_i64]; omega
theorem wu64 {n : Int} (h1 : 0 ≤ n) (h2 : n < 18446744073709551616) : IntKind.u64.wrap n = n := by rw [wrap_u64]; omega
theorem wu8 {n : Int} (h1 : 0 ≤ n) (h2 : n < 256) : IntKind.u8.wrap n = n := by rw [wrap_u8]; omega
theorem toNat_add_one (x : Nat) : ((x : Int) + 1).toNat = x + 1 := by omega
theorem toNat_one_add (x : Nat) : (1 + (x : Int)).toNat = x + 1 := by omega
end Go.Sx
namespace Go.Sx.Tryd
open Go Go.Sx
theorem opTo_neg {l : List (List UInt8)} {w : List UInt8} {n : Nat} (hn : l.length = n) (h : ∀ j, j < n → l.getD j [] ≠ w) : opTo l n w < 0 := by
  rw [opTo_all hn]
  split
  · rename_i i e
    obtain ⟨h1, h2, _⟩ := opIx_some e
    exact absurd h2 (h i (by omega))
  · decide
end Go.Sx.Tryd
namespace Go.Sx.Tryd
open Go Go.Sx Go.Proofs
variable {mx : Int}
set_option linter.unusedSimpArgs false
set_option maxRecDepth 20000
set_option maxHeartbeats 4000000
def opI (a : List UInt8) : Int := opTo instL 19 ((cutL 46 a).getD 0 [])
def instInv (a : List UInt8) : Nat → Option Inv := fun id =>
  bif id == 4 then some { α := Nat, keep := [2, 4, 5], drop := [2], env := fun _ x => [(6, .r (.c (.int .i64 x)))], chunks := fun _ x => [(2, .cells 74 [.int .i64 (opTo instL x ((cutL 46 a).getD 0 [])), .int .i64 0, .int .i64 0, .int .i64 0, .int .u64 0])], fresh := 0, pre := fun x => x ≤ 19, μ := fun x => 19 - x } else
  bif id == 14 then some { α := Nat, keep := [2, 4, 5, 7, 42], drop := [2, 3], env := fun _ _ => [], chunks := fun _ x => [(2, .cells 74 (insC (insTo (opI a) (cutL 46 a).tail x))), (3, .iter (instT (opI a)) x)], fresh := 0, pre := fun x => x ≤ (instT (opI a)).length ∧ (cutL 46 a).length = 1 + (instT (opI a)).length ∧ ((cutL 46 a).tail.take x).all okI = true, μ := fun x => (instT (opI a)).length - x } else none
theorem readInst_does : Does Tryd.prog (glS mx) 84 (instSpec) := by
  refine Does.of (fn := Tryd.f84) Tryd.func84 rfl ttok (spec := lookS [(22, splitI), (73, nameI instL), (74, fnI instT), (7, numI), (57, insRSpec)]) (((((Known.nil.cons callee57 insRight_does).cons callee7 numI_does).cons callee74 instPartsI_does).cons callee73 cpuNameI_does).cons callee22 splitI_does) (pc := fun _ => true) (((((PureOk.nil.cons (s := insRSpec) (k := 57) (fun _ _ => rfl)).cons (s := numI) (k := 7) (fun _ _ => rfl)).cons (s := fnI instT) (k := 74) (fun _ _ => rfl)).cons (s := nameI instL) (k := 73) (fun _ _ => rfl)).cons (s := splitI) (k := 22) (fun _ _ => rfl)) mixed (instSpec) (fun a id _ => instInv a id) (ord84) 3000 (rs := [.cell 2 74, .tmp 3]) rfl (n := 82) rfl (by decide) (by kernel_rfl) ?_
  intro (a : List UInt8) hp
  refine ⟨of_decide_eq_true (by kernel_rfl), ?_⟩
  refine vc_of (Q := a.length < (4294967281 : Nat) ∧ a = a ∧ [(46 : UInt8)] = [(46 : UInt8)] ∧ true = true ∧ ∀ (b : Unit), True → true = true ∧ (5 : Nat) = (5 : Nat) ∧ (5 : Nat) ≤ (5 : Nat) ∧ (∃ (x : Nat), x ≤ (19 : Nat) ∧ true = true ∧ true = true ∧ (↑x : Int) = (0 : Int) ∧ (0 : Nat) < (3 : Nat) ∧ some (0 : Nat) = some (0 : Nat) ∧ (0 : Nat) = (0 : Nat) ∧ (1 : Nat) < (3 : Nat) ∧ some (1 : Nat) = some (1 : Nat) ∧ (2 : Nat) < (3 : Nat) ∧ some (2 : Nat) = some (2 : Nat) ∧ (0 : Nat) = (0 : Nat) ∧ (2 : Nat) < (3 : Nat) ∧ (74 : TypeId) = (74 : Nat) ∧ true = true ∧ opTo instL x ((cutL (46 : UInt8) a).getD (0 : Nat) []) = (-1 : Int) ∧ true = true ∧ (0 : Int) = (0 : Int) ∧ true = true ∧ (0 : Int) = (0 : Int) ∧ true = true ∧ (0 : Int) = (0 : Int) ∧ true = true ∧ (0 : Int) = (0 : Int) ∧ (1 : Nat) < (3 : Nat) ∧ (9 : TypeId) = (9 : TypeId) ∧ (1 : Nat) = (1 : Nat) ∧ (cutL (46 : UInt8) a).length = (cutL (46 : UInt8) a).length ∧ (∀ (i j : Nat), i < (cutL (46 : UInt8) a).length → j < (1 : Nat) → CV.str ((cutL (46 : UInt8) a).getD i []) = CV.str ((cutL (46 : UInt8) a).getD i [])) ∧ (0 : Nat) < (3 : Nat) ∧ (74 : Nat) = (74 : Nat) ∧ true = true ∧ (0 : Int) = (0 : Int) ∧ true = true ∧ (0 : Int) = (0 : Int) ∧ true = true ∧ (0 : Int) = (0 : Int) ∧ true = true ∧ (0 : Int) = (0 : Int) ∧ true = true ∧ (0 : Int) = (0 : Int) ∧ True) ∧ ∀ (x : Nat), x ≤ (19 : Nat) → bif decide ((↑x : Int) ≤ (18 : Int)) then ((0 : Int) ≤ (0 : Int) ∧ (0 : Int) < (↑(cutL (46 : UInt8) a).length : Int)) ∧ (0 : Nat) < (cutL (46 : UInt8) a).length ∧ (1 : Nat) = (1 : Nat) ∧ (1 : Nat) ≤ (1 : Nat) ∧ true = true ∧ True ∧ true = true ∧ (↑x : Int) = (↑x : Int) ∧ true = true ∧ ∀ (b : Unit), True → bif decide (nameAt instL (↑x : Int) = (cutL (46 : UInt8) a).getD (0 : Nat) []) then true = true ∧ (1 : Nat) = (1 : Nat) ∧ (1 : Nat) ≤ (5 : Nat) ∧ ∃ (x' : Nat), x' ≤ (19 : Nat) ∧ (19 : Nat) - x' < (19 : Nat) - x ∧ true = true ∧ true = true ∧ (↑x' : Int) = IntKind.i64.wrap ((↑x : Int) + (1 : Int)) ∧ (0 : Nat) < (3 : Nat) ∧ some (0 : Nat) = some (0 : Nat) ∧ (0 : Nat) = (0 : Nat) ∧ (1 : Nat) < (3 : Nat) ∧ some (1 : Nat) = some (1 : Nat) ∧ (2 : Nat) < (3 : Nat) ∧ some (2 : Nat) = some (2 : Nat) ∧ (0 : Nat) = (0 : Nat) ∧ (2 : Nat) < (3 : Nat) ∧ (74 : TypeId) = (74 : TypeId) ∧ true = true ∧ opTo instL x' ((cutL (46 : UInt8) a).getD (0 : Nat) []) = (↑x : Int) ∧ true = true ∧ (0 : Int) = (0 : Int) ∧ true = true ∧ (0 : Int) = (0 : Int) ∧ true = true ∧ (0 : Int) = (0 : Int) ∧ true = true ∧ (0 : Int) = (0 : Int) ∧ (1 : Nat) < (3 : Nat) ∧ (9 : TypeId) = (9 : TypeId) ∧ (1 : Nat) = (1 : Nat) ∧ (cutL (46 : UInt8) a).length = (cutL (46 : UInt8) a).length ∧ (∀ (i j : Nat), i < (cutL (46 : UInt8) a).length → j < (1 : Nat) → CV.str ((cutL (46 : UInt8) a).getD i []) = CV.str ((cutL (46 : UInt8) a).getD i [])) ∧ (0 : Nat) < (3 : Nat) ∧ (74 : Nat) = (74 : Nat) ∧ true = true ∧ (0 : Int) = (0 : Int) ∧ true = true ∧ (0 : Int) = (0 : Int) ∧ true = true ∧ (0 : Int) = (0 : Int) ∧ true = true ∧ (0 : Int) = (0 : Int) ∧ true = true ∧ (0 : Int) = (0 : Int) ∧ True else ∃ (x' : Nat), x' ≤ (19 : Nat) ∧ (19 : Nat) - x' < (19 : Nat) - x ∧ true = true ∧ true = true ∧ (↑x' : Int) = IntKind.i64.wrap ((↑x : Int) + (1 : Int)) ∧ (0 : Nat) < (3 : Nat) ∧ some (0 : Nat) = some (0 : Nat) ∧ (0 : Nat) = (0 : Nat) ∧ (1 : Nat) < (3 : Nat) ∧ some (1 : Nat) = some (1 : Nat) ∧ (2 : Nat) < (3 : Nat) ∧ some (2 : Nat) = some (2 : Nat) ∧ (0 : Nat) = (0 : Nat) ∧ (2 : Nat) < (3 : Nat) ∧ (74 : TypeId) = (74 : TypeId) ∧ true = true ∧ opTo instL x' ((cutL (46 : UInt8) a).getD (0 : Nat) []) = opTo instL x ((cutL (46 : UInt8) a).getD (0 : Nat) []) ∧ true = true ∧ (0 : Int) = (0 : Int) ∧ true = true ∧ (0 : Int) = (0 : Int) ∧ true = true ∧ (0 : Int) = (0 : Int) ∧ true = true ∧ (0 : Int) = (0 : Int) ∧ (1 : Nat) < (3 : Nat) ∧ (9 : TypeId) = (9 : TypeId) ∧ (1 : Nat) = (1 : Nat) ∧ (cutL (46 : UInt8) a).length = (cutL (46 : UInt8) a).length ∧ (∀ (i j : Nat), i < (cutL (46 : UInt8) a).length → j < (1 : Nat) → CV.str ((cutL (46 : UInt8) a).getD i []) = CV.str ((cutL (46 : UInt8) a).getD i [])) ∧ (0 : Nat) < (3 : Nat) ∧ (74 : Nat) = (74 : Nat) ∧ true = true ∧ (0 : Int) = (0 : Int) ∧ true = true ∧ (0 : Int) = (0 : Int) ∧ true = true ∧ (0 : Int) = (0 : Int) ∧ true = true ∧ (0 : Int) = (0 : Int) ∧ true = true ∧ (0 : Int) = (0 : Int) ∧ True else (1 : Nat) ≤ (5 : Nat) ∧ true = true ∧ bif decide (opTo instL x ((cutL (46 : UInt8) a).getD (0 : Nat) []) < (0 : Int)) then true = true ∧ (5 : Nat) = (5 : Nat) ∧ (5 : Nat) ≤ (5 : Nat) ∧ (5 : Nat) ≤ (5 : Nat) ∧ true = true ∧ true = true ∧ true = true ∧ true = true ∧ true = true ∧ ∃ (b : Ins), (∀ (t : Ins), instOf a = some t → b = t) ∧ true = true ∧ true = true ∧ b.op = (0 : Int) ∧ true = true ∧ b.a = (0 : Int) ∧ true = true ∧ b.b = (0 : Int) ∧ true = true ∧ b.c = (0 : Int) ∧ true = true ∧ b.n = (0 : Int) ∧ (instOf a).isSome = false ∧ True else (1 : Nat) ≤ (5 : Nat) ∧ true = true ∧ True ∧ true = true ∧ opTo instL x ((cutL (46 : UInt8) a).getD (0 : Nat) []) = opTo instL x ((cutL (46 : UInt8) a).getD (0 : Nat) []) ∧ true = true ∧ ∀ (b : Unit), True → bif !decide ((↑(cutL (46 : UInt8) a).length : Int) = IntKind.i64.wrap ((1 : Int) + (↑(instT (opTo instL x ((cutL (46 : UInt8) a).getD (0 : Nat) []))).length : Int))) then true = true ∧ (5 : Nat) = (5 : Nat) ∧ (5 : Nat) ≤ (5 : Nat) ∧ (5 : Nat) ≤ (5 : Nat) ∧ true = true ∧ true = true ∧ true = true ∧ true = true ∧ true = true ∧ ∃ (b : Ins), (∀ (t : Ins), instOf a = some t → b = t) ∧ true = true ∧ true = true ∧ b.op = (0 : Int) ∧ true = true ∧ b.a = (0 : Int) ∧ true = true ∧ b.b = (0 : Int) ∧ true = true ∧ b.c = (0 : Int) ∧ true = true ∧ b.n = (0 : Int) ∧ (instOf a).isSome = false ∧ True else (∃ (x_1 : Nat), (x_1 ≤ (instT (opI a)).length ∧ (cutL (46 : UInt8) a).length = (1 : Nat) + (instT (opI a)).length ∧ (List.take x_1 (cutL (46 : UInt8) a).tail).all okI = true) ∧ true = true ∧ (0 : Nat) < (4 : Nat) ∧ some (0 : Nat) = some (0 : Nat) ∧ (0 : Nat) = (0 : Nat) ∧ (1 : Nat) < (4 : Nat) ∧ some (1 : Nat) = some (1 : Nat) ∧ (2 : Nat) < (4 : Nat) ∧ some (2 : Nat) = some (2 : Nat) ∧ (0 : Nat) = (0 : Nat) ∧ instT (opTo instL x ((cutL (46 : UInt8) a).getD (0 : Nat) [])) = instT (opTo instL x ((cutL (46 : UInt8) a).getD (0 : Nat) [])) ∧ (3 : Nat) < (4 : Nat) ∧ some (3 : Nat) = some (3 : Nat) ∧ (0 : Nat) = (0 : Nat) ∧ (2 : Nat) < (4 : Nat) ∧ (74 : TypeId) = (74 : TypeId) ∧ true = true ∧ (insTo (opI a) (cutL (46 : UInt8) a).tail x_1).op = opTo instL x ((cutL (46 : UInt8) a).getD (0 : Nat) []) ∧ true = true ∧ (insTo (opI a) (cutL (46 : UInt8) a).tail x_1).a = (0 : Int) ∧ true = true ∧ (insTo (opI a) (cutL (46 : UInt8) a).tail x_1).b = (0 : Int) ∧ true = true ∧ (insTo (opI a) (cutL (46 : UInt8) a).tail x_1).c = (0 : Int) ∧ true = true ∧ (insTo (opI a) (cutL (46 : UInt8) a).tail x_1).n = (0 : Int) ∧ (3 : Nat) < (4 : Nat) ∧ instT (opI a) = instT (opTo instL x ((cutL (46 : UInt8) a).getD (0 : Nat) [])) ∧ x_1 = (0 : Nat) ∧ (1 : Nat) < (4 : Nat) ∧ (9 : TypeId) = (9 : TypeId) ∧ (1 : Nat) = (1 : Nat) ∧ (cutL (46 : UInt8) a).length = (cutL (46 : UInt8) a).length ∧ (∀ (i j : Nat), i < (cutL (46 : UInt8) a).length → j < (1 : Nat) → CV.str ((cutL (46 : UInt8) a).getD i []) = CV.str ((cutL (46 : UInt8) a).getD i [])) ∧ (0 : Nat) < (4 : Nat) ∧ (74 : Nat) = (74 : Nat) ∧ true = true ∧ (0 : Int) = (0 : Int) ∧ true = true ∧ (0 : Int) = (0 : Int) ∧ true = true ∧ (0 : Int) = (0 : Int) ∧ true = true ∧ (0 : Int) = (0 : Int) ∧ true = true ∧ (0 : Int) = (0 : Int) ∧ True) ∧ ∀ (x_1 : Nat), x_1 ≤ (instT (opI a)).length ∧ (cutL (46 : UInt8) a).length = (1 : Nat) + (instT (opI a)).length ∧ (List.take x_1 (cutL (46 : UInt8) a).tail).all okI = true → (x_1 < (instT (opI a)).length → ((instT (opI a)).getD x_1 (0 : UInt8)).toNat < (128 : Nat)) ∧ bif decide (x_1 < (instT (opI a)).length) then decide (x_1 < (instT (opI a)).length) = true ∧ decide (x_1 < (instT (opI a)).length) = true ∧ ((0 : Int) ≤ IntKind.i64.wrap ((1 : Int) + (↑x_1 : Int)) ∧ IntKind.i64.wrap ((1 : Int) + (↑x_1 : Int)) < (↑(cutL (46 : UInt8) a).length : Int)) ∧ (IntKind.i64.wrap ((1 : Int) + (↑x_1 : Int))).toNat < (cutL (46 : UInt8) a).length ∧ (1 : Nat) = (1 : Nat) ∧ (1 : Nat) ≤ (1 : Nat) ∧ true = true ∧ ((0 : Int) ≤ (17592186044415 : Int) ∧ (17592186044415 : Int) < (18446744073709551616 : Int)) ∧ (cutL (46 : UInt8) a).getD (IntKind.i64.wrap ((1 : Int) + (↑x_1 : Int))).toNat [] = (cutL (46 : UInt8) a).getD (IntKind.i64.wrap ((1 : Int) + (↑x_1 : Int))).toNat [] ∧ true = true ∧ (17592186044415 : Int) = (17592186044415 : Int) ∧ true = true ∧ ∀ (b : Unit), True → bif !(numAns ((cutL (46 : UInt8) a).getD (IntKind.i64.wrap ((1 : Int) + (↑x_1 : Int))).toNat []) (17592186044415 : Int)).snd then true = true ∧ (5 : Nat) = (5 : Nat) ∧ (5 : Nat) ≤ (5 : Nat) ∧ (5 : Nat) ≤ (5 : Nat) ∧ true = true ∧ true = true ∧ true = true ∧ true = true ∧ true = true ∧ ∃ (b : Ins), (∀ (t : Ins), instOf a = some t → b = t) ∧ true = true ∧ true = true ∧ b.op = (0 : Int) ∧ true = true ∧ b.a = (0 : Int) ∧ true = true ∧ b.b = (0 : Int) ∧ true = true ∧ b.c = (0 : Int) ∧ true = true ∧ b.n = (0 : Int) ∧ (instOf a).isSome = false ∧ True else bif decide ((↑((instT (opI a)).getD x_1 (0 : UInt8)).toNat : Int) = (65 : Int)) then true = true ∧ (1 : Nat) = (1 : Nat) ∧ (2 : Nat) ≤ (5 : Nat) ∧ ∃ (x' : Nat), (x' ≤ (instT (opI a)).length ∧ (cutL (46 : UInt8) a).length = (1 : Nat) + (instT (opI a)).length ∧ (List.take x' (cutL (46 : UInt8) a).tail).all okI = true) ∧ (instT (opI a)).length - x' < (instT (opI a)).length - x_1 ∧ true = true ∧ (0 : Nat) < (4 : Nat) ∧ some (0 : Nat) = some (0 : Nat) ∧ (0 : Nat) = (0 : Nat) ∧ (1 : Nat) < (4 : Nat) ∧ some (1 : Nat) = some (1 : Nat) ∧ (2 : Nat) < (4 : Nat) ∧ some (2 : Nat) = some (2 : Nat) ∧ (0 : Nat) = (0 : Nat) ∧ instT (opTo instL x ((cutL (46 : UInt8) a).getD (0 : Nat) [])) = instT (opTo instL x ((cutL (46 : UInt8) a).getD (0 : Nat) [])) ∧ (3 : Nat) < (4 : Nat) ∧ some (3 : Nat) = some (3 : Nat) ∧ (0 : Nat) = (0 : Nat) ∧ (2 : Nat) < (4 : Nat) ∧ (74 : TypeId) = (74 : TypeId) ∧ true = true ∧ (insTo (opI a) (cutL (46 : UInt8) a).tail x').op = (insTo (opI a) (cutL (46 : UInt8) a).tail x_1).op ∧ true = true ∧ (insTo (opI a) (cutL (46 : UInt8) a).tail x').a = IntKind.i64.wrap (numAns ((cutL (46 : UInt8) a).getD (IntKind.i64.wrap ((1 : Int) + (↑x_1 : Int))).toNat []) (17592186044415 : Int)).fst ∧ true = true ∧ (insTo (opI a) (cutL (46 : UInt8) a).tail x').b = (insTo (opI a) (cutL (46 : UInt8) a).tail x_1).b ∧ true = true ∧ (insTo (opI a) (cutL (46 : UInt8) a).tail x').c = (insTo (opI a) (cutL (46 : UInt8) a).tail x_1).c ∧ true = true ∧ (insTo (opI a) (cutL (46 : UInt8) a).tail x').n = (insTo (opI a) (cutL (46 : UInt8) a).tail x_1).n ∧ (3 : Nat) < (4 : Nat) ∧ instT (opI a) = instT (opI a) ∧ (x' = if x_1 < (instT (opI a)).length then x_1 + (1 : Nat) else x_1) ∧ (1 : Nat) < (4 : Nat) ∧ (9 : TypeId) = (9 : TypeId) ∧ (1 : Nat) = (1 : Nat) ∧ (cutL (46 : UInt8) a).length = (cutL (46 : UInt8) a).length ∧ (∀ (i j : Nat), i < (cutL (46 : UInt8) a).length → j < (1 : Nat) → CV.str ((cutL (46 : UInt8) a).getD i []) = CV.str ((cutL (46 : UInt8) a).getD i [])) ∧ (0 : Nat) < (4 : Nat) ∧ (74 : Nat) = (74 : Nat) ∧ true = true ∧ (0 : Int) = (0 : Int) ∧ true = true ∧ (0 : Int) = (0 : Int) ∧ true = true ∧ (0 : Int) = (0 : Int) ∧ true = true ∧ (0 : Int) = (0 : Int) ∧ true = true ∧ (0 : Int) = (0 : Int) ∧ True else bif decide ((↑((instT (opI a)).getD x_1 (0 : UInt8)).toNat : Int) = (66 : Int)) then true = true ∧ (1 : Nat) = (1 : Nat) ∧ (3 : Nat) ≤ (5 : Nat) ∧ ∃ (x' : Nat), (x' ≤ (instT (opI a)).length ∧ (cutL (46 : UInt8) a).length = (1 : Nat) + (instT (opI a)).length ∧ (List.take x' (cutL (46 : UInt8) a).tail).all okI = true) ∧ (instT (opI a)).length - x' < (instT (opI a)).length - x_1 ∧ true = true ∧ (0 : Nat) < (4 : Nat) ∧ some (0 : Nat) = some (0 : Nat) ∧ (0 : Nat) = (0 : Nat) ∧ (1 : Nat) < (4 : Nat) ∧ some (1 : Nat) = some (1 : Nat) ∧ (2 : Nat) < (4 : Nat) ∧ some (2 : Nat) = some (2 : Nat) ∧ (0 : Nat) = (0 : Nat) ∧ instT (opTo instL x ((cutL (46 : UInt8) a).getD (0 : Nat) [])) = instT (opTo instL x ((cutL (46 : UInt8) a).getD (0 : Nat) [])) ∧ (3 : Nat) < (4 : Nat) ∧ some (3 : Nat) = some (3 : Nat) ∧ (0 : Nat) = (0 : Nat) ∧ (2 : Nat) < (4 : Nat) ∧ (74 : TypeId) = (74 : TypeId) ∧ true = true ∧ (insTo (opI a) (cutL (46 : UInt8) a).tail x').op = (insTo (opI a) (cutL (46 : UInt8) a).tail x_1).op ∧ true = true ∧ (insTo (opI a) (cutL (46 : UInt8) a).tail x').a = (insTo (opI a) (cutL (46 : UInt8) a).tail x_1).a ∧ true = true ∧ (insTo (opI a) (cutL (46 : UInt8) a).tail x').b = IntKind.i64.wrap (numAns ((cutL (46 : UInt8) a).getD (IntKind.i64.wrap ((1 : Int) + (↑x_1 : Int))).toNat []) (17592186044415 : Int)).fst ∧ true = true ∧ (insTo (opI a) (cutL (46 : UInt8) a).tail x').c = (insTo (opI a) (cutL (46 : UInt8) a).tail x_1).c ∧ true = true ∧ (insTo (opI a) (cutL (46 : UInt8) a).tail x').n = (insTo (opI a) (cutL (46 : UInt8) a).tail x_1).n ∧ (3 : Nat) < (4 : Nat) ∧ instT (opI a) = instT (opI a) ∧ (x' = if x_1 < (instT (opI a)).length then x_1 + (1 : Nat) else x_1) ∧ (1 : Nat) < (4 : Nat) ∧ (9 : TypeId) = (9 : TypeId) ∧ (1 : Nat) = (1 : Nat) ∧ (cutL (46 : UInt8) a).length = (cutL (46 : UInt8) a).length ∧ (∀ (i j : Nat), i < (cutL (46 : UInt8) a).length → j < (1 : Nat) → CV.str ((cutL (46 : UInt8) a).getD i []) = CV.str ((cutL (46 : UInt8) a).getD i [])) ∧ (0 : Nat) < (4 : Nat) ∧ (74 : Nat) = (74 : Nat) ∧ true = true ∧ (0 : Int) = (0 : Int) ∧ true = true ∧ (0 : Int) = (0 : Int) ∧ true = true ∧ (0 : Int) = (0 : Int) ∧ true = true ∧ (0 : Int) = (0 : Int) ∧ true = true ∧ (0 : Int) = (0 : Int) ∧ True else bif decide ((↑((instT (opI a)).getD x_1 (0 : UInt8)).toNat : Int) = (67 : Int)) then true = true ∧ (1 : Nat) = (1 : Nat) ∧ (4 : Nat) ≤ (5 : Nat) ∧ ∃ (x' : Nat), (x' ≤ (instT (opI a)).length ∧ (cutL (46 : UInt8) a).length = (1 : Nat) + (instT (opI a)).length ∧ (List.take x' (cutL (46 : UInt8) a).tail).all okI = true) ∧ (instT (opI a)).length - x' < (instT (opI a)).length - x_1 ∧ true = true ∧ (0 : Nat) < (4 : Nat) ∧ some (0 : Nat) = some (0 : Nat) ∧ (0 : Nat) = (0 : Nat) ∧ (1 : Nat) < (4 : Nat) ∧ some (1 : Nat) = some (1 : Nat) ∧ (2 : Nat) < (4 : Nat) ∧ some (2 : Nat) = some (2 : Nat) ∧ (0 : Nat) = (0 : Nat) ∧ instT (opTo instL x ((cutL (46 : UInt8) a).getD (0 : Nat) [])) = instT (opTo instL x ((cutL (46 : UInt8) a).getD (0 : Nat) [])) ∧ (3 : Nat) < (4 : Nat) ∧ some (3 : Nat) = some (3 : Nat) ∧ (0 : Nat) = (0 : Nat) ∧ (2 : Nat) < (4 : Nat) ∧ (74 : TypeId) = (74 : TypeId) ∧ true = true ∧ (insTo (opI a) (cutL (46 : UInt8) a).tail x').op = (insTo (opI a) (cutL (46 : UInt8) a).tail x_1).op ∧ true = true ∧ (insTo (opI a) (cutL (46 : UInt8) a).tail x').a = (insTo (opI a) (cutL (46 : UInt8) a).tail x_1).a ∧ true = true ∧ (insTo (opI a) (cutL (46 : UInt8) a).tail x').b = (insTo (opI a) (cutL (46 : UInt8) a).tail x_1).b ∧ true = true ∧ (insTo (opI a) (cutL (46 : UInt8) a).tail x').c = IntKind.i64.wrap (numAns ((cutL (46 : UInt8) a).getD (IntKind.i64.wrap ((1 : Int) + (↑x_1 : Int))).toNat []) (17592186044415 : Int)).fst ∧ true = true ∧ (insTo (opI a) (cutL (46 : UInt8) a).tail x').n = (insTo (opI a) (cutL (46 : UInt8) a).tail x_1).n ∧ (3 : Nat) < (4 : Nat) ∧ instT (opI a) = instT (opI a) ∧ (x' = if x_1 < (instT (opI a)).length then x_1 + (1 : Nat) else x_1) ∧ (1 : Nat) < (4 : Nat) ∧ (9 : TypeId) = (9 : TypeId) ∧ (1 : Nat) = (1 : Nat) ∧ (cutL (46 : UInt8) a).length = (cutL (46 : UInt8) a).length ∧ (∀ (i j : Nat), i < (cutL (46 : UInt8) a).length → j < (1 : Nat) → CV.str ((cutL (46 : UInt8) a).getD i []) = CV.str ((cutL (46 : UInt8) a).getD i [])) ∧ (0 : Nat) < (4 : Nat) ∧ (74 : Nat) = (74 : Nat) ∧ true = true ∧ (0 : Int) = (0 : Int) ∧ true = true ∧ (0 : Int) = (0 : Int) ∧ true = true ∧ (0 : Int) = (0 : Int) ∧ true = true ∧ (0 : Int) = (0 : Int) ∧ true = true ∧ (0 : Int) = (0 : Int) ∧ True else bif decide ((↑((instT (opI a)).getD x_1 (0 : UInt8)).toNat : Int) = (78 : Int)) then true = true ∧ (1 : Nat) = (1 : Nat) ∧ (5 : Nat) ≤ (5 : Nat) ∧ ∃ (x' : Nat), (x' ≤ (instT (opI a)).length ∧ (cutL (46 : UInt8) a).length = (1 : Nat) + (instT (opI a)).length ∧ (List.take x' (cutL (46 : UInt8) a).tail).all okI = true) ∧ (instT (opI a)).length - x' < (instT (opI a)).length - x_1 ∧ true = true ∧ (0 : Nat) < (4 : Nat) ∧ some (0 : Nat) = some (0 : Nat) ∧ (0 : Nat) = (0 : Nat) ∧ (1 : Nat) < (4 : Nat) ∧ some (1 : Nat) = some (1 : Nat) ∧ (2 : Nat) < (4 : Nat) ∧ some (2 : Nat) = some (2 : Nat) ∧ (0 : Nat) = (0 : Nat) ∧ instT (opTo instL x ((cutL (46 : UInt8) a).getD (0 : Nat) [])) = instT (opTo instL x ((cutL (46 : UInt8) a).getD (0 : Nat) [])) ∧ (3 : Nat) < (4 : Nat) ∧ some (3 : Nat) = some (3 : Nat) ∧ (0 : Nat) = (0 : Nat) ∧ (2 : Nat) < (4 : Nat) ∧ (74 : TypeId) = (74 : TypeId) ∧ true = true ∧ (insTo (opI a) (cutL (46 : UInt8) a).tail x').op = (insTo (opI a) (cutL (46 : UInt8) a).tail x_1).op ∧ true = true ∧ (insTo (opI a) (cutL (46 : UInt8) a).tail x').a = (insTo (opI a) (cutL (46 : UInt8) a).tail x_1).a ∧ true = true ∧ (insTo (opI a) (cutL (46 : UInt8) a).tail x').b = (insTo (opI a) (cutL (46 : UInt8) a).tail x_1).b ∧ true = true ∧ (insTo (opI a) (cutL (46 : UInt8) a).tail x').c = (insTo (opI a) (cutL (46 : UInt8) a).tail x_1).c ∧ true = true ∧ (insTo (opI a) (cutL (46 : UInt8) a).tail x').n = (numAns ((cutL (46 : UInt8) a).getD (IntKind.i64.wrap ((1 : Int) + (↑x_1 : Int))).toNat []) (17592186044415 : Int)).fst ∧ (3 : Nat) < (4 : Nat) ∧ instT (opI a) = instT (opI a) ∧ (x' = if x_1 < (instT (opI a)).length then x_1 + (1 : Nat) else x_1) ∧ (1 : Nat) < (4 : Nat) ∧ (9 : TypeId) = (9 : TypeId) ∧ (1 : Nat) = (1 : Nat) ∧ (cutL (46 : UInt8) a).length = (cutL (46 : UInt8) a).length ∧ (∀ (i j : Nat), i < (cutL (46 : UInt8) a).length → j < (1 : Nat) → CV.str ((cutL (46 : UInt8) a).getD i []) = CV.str ((cutL (46 : UInt8) a).getD i [])) ∧ (0 : Nat) < (4 : Nat) ∧ (74 : Nat) = (74 : Nat) ∧ true = true ∧ (0 : Int) = (0 : Int) ∧ true = true ∧ (0 : Int) = (0 : Int) ∧ true = true ∧ (0 : Int) = (0 : Int) ∧ true = true ∧ (0 : Int) = (0 : Int) ∧ true = true ∧ (0 : Int) = (0 : Int) ∧ True else ∃ (x' : Nat), (x' ≤ (instT (opI a)).length ∧ (cutL (46 : UInt8) a).length = (1 : Nat) + (instT (opI a)).length ∧ (List.take x' (cutL (46 : UInt8) a).tail).all okI = true) ∧ (instT (opI a)).length - x' < (instT (opI a)).length - x_1 ∧ true = true ∧ (0 : Nat) < (4 : Nat) ∧ some (0 : Nat) = some (0 : Nat) ∧ (0 : Nat) = (0 : Nat) ∧ (1 : Nat) < (4 : Nat) ∧ some (1 : Nat) = some (1 : Nat) ∧ (2 : Nat) < (4 : Nat) ∧ some (2 : Nat) = some (2 : Nat) ∧ (0 : Nat) = (0 : Nat) ∧ instT (opTo instL x ((cutL (46 : UInt8) a).getD (0 : Nat) [])) = instT (opTo instL x ((cutL (46 : UInt8) a).getD (0 : Nat) [])) ∧ (3 : Nat) < (4 : Nat) ∧ some (3 : Nat) = some (3 : Nat) ∧ (0 : Nat) = (0 : Nat) ∧ (2 : Nat) < (4 : Nat) ∧ (74 : TypeId) = (74 : TypeId) ∧ true = true ∧ (insTo (opI a) (cutL (46 : UInt8) a).tail x').op = (insTo (opI a) (cutL (46 : UInt8) a).tail x_1).op ∧ true = true ∧ (insTo (opI a) (cutL (46 : UInt8) a).tail x').a = (insTo (opI a) (cutL (46 : UInt8) a).tail x_1).a ∧ true = true ∧ (insTo (opI a) (cutL (46 : UInt8) a).tail x').b = (insTo (opI a) (cutL (46 : UInt8) a).tail x_1).b ∧ true = true ∧ (insTo (opI a) (cutL (46 : UInt8) a).tail x').c = (insTo (opI a) (cutL (46 : UInt8) a).tail x_1).c ∧ true = true ∧ (insTo (opI a) (cutL (46 : UInt8) a).tail x').n = (insTo (opI a) (cutL (46 : UInt8) a).tail x_1).n ∧ (3 : Nat) < (4 : Nat) ∧ instT (opI a) = instT (opI a) ∧ (x' = if x_1 < (instT (opI a)).length then x_1 + (1 : Nat) else x_1) ∧ (1 : Nat) < (4 : Nat) ∧ (9 : TypeId) = (9 : TypeId) ∧ (1 : Nat) = (1 : Nat) ∧ (cutL (46 : UInt8) a).length = (cutL (46 : UInt8) a).length ∧ (∀ (i j : Nat), i < (cutL (46 : UInt8) a).length → j < (1 : Nat) → CV.str ((cutL (46 : UInt8) a).getD i []) = CV.str ((cutL (46 : UInt8) a).getD i [])) ∧ (0 : Nat) < (4 : Nat) ∧ (74 : Nat) = (74 : Nat) ∧ true = true ∧ (0 : Int) = (0 : Int) ∧ true = true ∧ (0 : Int) = (0 : Int) ∧ true = true ∧ (0 : Int) = (0 : Int) ∧ true = true ∧ (0 : Int) = (0 : Int) ∧ true = true ∧ (0 : Int) = (0 : Int) ∧ True else (5 : Nat) ≤ (5 : Nat) ∧ true = true ∧ true = true ∧ true = true ∧ true = true ∧ true = true ∧ (5 : Nat) ≤ (5 : Nat) ∧ true = true ∧ true = true ∧ true = true ∧ true = true ∧ true = true ∧ True ∧ true = true ∧ (insTo (opI a) (cutL (46 : UInt8) a).tail x_1).op = (insTo (opI a) (cutL (46 : UInt8) a).tail x_1).op ∧ true = true ∧ (insTo (opI a) (cutL (46 : UInt8) a).tail x_1).a = (insTo (opI a) (cutL (46 : UInt8) a).tail x_1).a ∧ true = true ∧ (insTo (opI a) (cutL (46 : UInt8) a).tail x_1).b = (insTo (opI a) (cutL (46 : UInt8) a).tail x_1).b ∧ true = true ∧ (insTo (opI a) (cutL (46 : UInt8) a).tail x_1).c = (insTo (opI a) (cutL (46 : UInt8) a).tail x_1).c ∧ true = true ∧ (insTo (opI a) (cutL (46 : UInt8) a).tail x_1).n = (insTo (opI a) (cutL (46 : UInt8) a).tail x_1).n ∧ true = true ∧ ∀ (b : Unit), True → true = true ∧ (5 : Nat) = (5 : Nat) ∧ (5 : Nat) ≤ (5 : Nat) ∧ (5 : Nat) ≤ (5 : Nat) ∧ true = true ∧ true = true ∧ true = true ∧ true = true ∧ true = true ∧ ∃ (b : Ins), (∀ (t : Ins), instOf a = some t → b = t) ∧ true = true ∧ true = true ∧ b.op = (insTo (opI a) (cutL (46 : UInt8) a).tail x_1).op ∧ true = true ∧ b.a = (insTo (opI a) (cutL (46 : UInt8) a).tail x_1).a ∧ true = true ∧ b.b = (insTo (opI a) (cutL (46 : UInt8) a).tail x_1).b ∧ true = true ∧ b.c = (insTo (opI a) (cutL (46 : UInt8) a).tail x_1).c ∧ true = true ∧ b.n = (insTo (opI a) (cutL (46 : UInt8) a).tail x_1).n ∧ (instOf a).isSome = insRight { op := (insTo (opI a) (cutL (46 : UInt8) a).tail x_1).op, a := (insTo (opI a) (cutL (46 : UInt8) a).tail x_1).a, b := (insTo (opI a) (cutL (46 : UInt8) a).tail x_1).b, c := (insTo (opI a) (cutL (46 : UInt8) a).tail x_1).c, n := (insTo (opI a) (cutL (46 : UInt8) a).tail x_1).n } ∧ True) (by kernel_rfl) ?_
  try simp only [condP, eq_self, true_and, and_true, and_self, cond_or, cond_and, decide_true, decide_false, imp_self, implies_true, forall_const, exists_const, exists_prop, decide_eq_true_eq, decide_eq_false_iff_not, Bool.and_eq_true, Bool.or_eq_true, Bool.not_eq_true', Bool.not_eq_false', Bool.or_eq_false_iff, Bool.and_eq_false_imp, wrap_u64, wrap_u8, wrap_i64, tdiv_u64, tmod_u64, Int.toNat_natCast, Int.toNat_zero, Int.reduceToNat, Int.reduceAdd, Int.reduceMod, Int.reduceSub, Int.reduceMul, Int.reduceNeg, Int.reduceLT, Int.reduceLE, Int.cast_ofNat_Int, Nat.reduceLT, Nat.reduceLeDiff, Nat.reduceEqDiff, Nat.reduceAdd, Nat.reduceMul, Nat.reduceSub, Nat.reducePow, Nat.le_refl, Int.le_refl, Nat.zero_add, Nat.add_zero, Nat.mul_one, Nat.zero_le, Bool.false_eq_true, Bool.true_eq_false, reduceCtorEq, not_false_eq_true, not_true_eq_false, false_implies, true_implies, Nat.lt_irrefl, Int.lt_irrefl, UInt8.reduceOfNat, UInt8.reduceToNat]
  have hp : a.length < 4294967281 := hp
  obtain ⟨w, ws, hc⟩ := cutL_cons 46 a
  have hI : opI a = opTo instL 19 w := by unfold opI; rw [hc]; rfl
  have hno := instOf_no hc
  have hyes := fun i => instOf_cons hc (i := i)
  have hl : instL.length = 19 := rfl
  have h3 := instT_len3 (opTo instL 19 w)
  have hlet := instT_lt (opTo instL 19 w)
  have hn : instOf a = none → ∀ b : Ins, (∀ t, instOf a = some t → b = t) ∧ (instOf a).isSome = false := fun h b => (by rw [h]; exact ⟨fun t ht => (by cases ht), rfl⟩)
  have hw0 : (cutL 46 a).getD 0 [] = w := by rw [hc]; rfl
  have hws : (cutL 46 a).tail = ws := by rw [hc]; rfl
  have hle : (cutL 46 a).length = ws.length + 1 := by rw [hc]; rfl
  have hat : ∀ k : Nat, (cutL 46 a).getD (1 + (k : Int)).toNat [] = ws.getD k [] := fun k => by
    rw [show (1 + (k : Int)).toNat = k + 1 by omega, hc]; rfl
  clear hc
  simp only [hw0, hws, hle, hI, okI_def, valI_def]
  (repeat' (first | (apply And.intro) | (intro _))) <;> (try simp (disch := omega) only [wrapS, ← Int.natCast_add_one, Int.toNat_natCast] at *) <;> (try (first | (with_reducible rfl) | (with_reducible assumption) | exact True.intro | omega))
  · exact ⟨0, by omega, rfl, opTo_zero _ _⟩
  · rename_i x h1 h2 h3
    exact ⟨x + 1, by omega, by omega, by omega, opTo_hit instL_nodup (by rw [hl]; omega) h3⟩
  · rename_i x h1 h2 h3
    exact ⟨x + 1, by omega, by omega, by omega, opTo_miss (by rw [hl]; omega) h3⟩
  · rename_i x h1 h2 h3
    have hx : x = 19 := by omega
    subst hx
    have h := hn (hno (.inl h3)) ins0
    exact ⟨_, h.1, rfl, rfl, rfl, rfl, rfl, h.2⟩
  · rename_i x h1 h2 h3 h4
    have hx : x = 19 := by omega
    subst hx
    have h := hn (hno (.inr (.inl fun e => h4 (by omega)))) ins0
    exact ⟨_, h.1, rfl, rfl, rfl, rfl, rfl, h.2⟩
  · rename_i x h1 h2 h3 h4
    have hx : x = 19 := by omega
    subst hx
    exact ⟨0, ⟨Nat.zero_le _, by omega, rfl⟩, rfl, rfl, rfl, rfl, rfl, rfl, rfl⟩
  · rename_i k h5 h6
    rcases hlet k h6 with h | h | h | h <;> rw [h] <;> decide
  · rename_i k h5 h6 h7
    have hk : k < ws.length := by omega
    rw [hat k] at h7
    have h := hn (hno (.inr (.inr (.inl (all_not [] hk h7))))) ins0
    exact ⟨_, h.1, rfl, rfl, rfl, rfl, rfl, h.2⟩
  · rename_i k h5 h6 h8 h7
    have hk : k < ws.length := by omega
    rw [hat k] at h7 ⊢
    have h8 : (instT (opTo instL 19 w)).getD k 0 = 65 := toNat_eq h8
    exact ⟨k + 1, ⟨by omega, by omega, by rw [take_all_succ [] hk h5.2.2]; exact h7⟩, by omega, by rw [insTo_65 h8], by rw [insTo_65 h8]; exact (valI_wrap _).symm, by rw [insTo_65 h8], by rw [insTo_65 h8], by rw [insTo_65 h8], by rw [if_pos h6]⟩
  · rename_i k h5 h6 _ h8 h7
    have hk : k < ws.length := by omega
    rw [hat k] at h7 ⊢
    have h8 : (instT (opTo instL 19 w)).getD k 0 = 66 := toNat_eq h8
    exact ⟨k + 1, ⟨by omega, by omega, by rw [take_all_succ [] hk h5.2.2]; exact h7⟩, by omega, by rw [insTo_66 h8], by rw [insTo_66 h8], by rw [insTo_66 h8]; exact (valI_wrap _).symm, by rw [insTo_66 h8], by rw [insTo_66 h8], by rw [if_pos h6]⟩
  · rename_i k h5 h6 _ _ h8 h7
    have hk : k < ws.length := by omega
    rw [hat k] at h7 ⊢
    have h8 : (instT (opTo instL 19 w)).getD k 0 = 67 := toNat_eq h8
    exact ⟨k + 1, ⟨by omega, by omega, by rw [take_all_succ [] hk h5.2.2]; exact h7⟩, by omega, by rw [insTo_67 h8], by rw [insTo_67 h8], by rw [insTo_67 h8], by rw [insTo_67 h8]; exact (valI_wrap _).symm, by rw [insTo_67 h8], by rw [if_pos h6]⟩
  · rename_i k h5 h6 _ _ _ h8 h7
    have hk : k < ws.length := by omega
    rw [hat k] at h7 ⊢
    have h8 : (instT (opTo instL 19 w)).getD k 0 = 78 := toNat_eq h8
    exact ⟨k + 1, ⟨by omega, by omega, by rw [take_all_succ [] hk h5.2.2]; exact h7⟩, by omega, by rw [insTo_78 h8], by rw [insTo_78 h8], by rw [insTo_78 h8], by rw [insTo_78 h8], by rw [insTo_78 h8], by rw [if_pos h6]⟩
  · rename_i k h5 h6 n1 n2 n3 n4 h7
    exfalso
    rcases hlet k h6 with h | h | h | h
    · exact n1 (by rw [h]; rfl)
    · exact n2 (by rw [h]; rfl)
    · exact n3 (by rw [h]; rfl)
    · exact n4 (by rw [h]; rfl)
  · rename_i x h1 h2 hpos h4 k h5 h6
    have hx : x = 19 := by omega
    subst hx
    have hk : k = (instT (opTo instL 19 w)).length := by omega
    have hw : k = ws.length := by omega
    rw [hw, List.take_length] at h5
    rw [hk]
    obtain ⟨i, hi⟩ : ∃ i : Nat, opTo instL 19 w = i := ⟨(opTo instL 19 w).toNat, by omega⟩
    cases hr : insRight (insTo (opTo instL 19 w) ws (instT (opTo instL 19 w)).length) with
    | false =>
      have h := hn (hno (.inr (.inr (.inr hr)))) (insTo (opTo instL 19 w) ws (instT (opTo instL 19 w)).length)
      exact ⟨_, h.1, rfl, rfl, rfl, rfl, rfl, h.2⟩
    | true =>
      rw [hi] at hr ⊢
      have h := hyes i hi (by rw [← hi]; omega) h5.2.2 hr
      rw [h]
      exact ⟨_, fun t ht => Option.some.inj ht, rfl, rfl, rfl, rfl, rfl, rfl⟩
end Go.Sx.Tryd
namespace Go.Sx.Tryd
open Go Go.Sx Go.Proofs
variable {mx : Int}
set_option linter.unusedSimpArgs false
set_option maxRecDepth 20000
set_option maxHeartbeats 4000000
def rinstInv (a : List UInt8) : Nat → Option Inv := fun id =>
  bif id == 3 then some { α := Nat, keep := [2, 4], drop := [], env := fun _ x => [(5, .r (.c (.int .i64 x)))], chunks := fun _ _ => [], fresh := 0, pre := fun x => x ≤ 19 ∧ ∀ j, j < x → instL.getD j [] ≠ (cutL 46 a).getD 0 [], μ := fun x => 19 - x } else
  bif id == 10 then some { α := Nat, keep := [2, 4, 5, 6], drop := [2], env := fun _ x => [(7, .r (.c (.int .i64 (x + 1))))], chunks := fun _ x => [(2, .cells 78 (insC (insTo (opI a) (cutL 46 a).tail x)))], fresh := 0, pre := fun x => x ≤ (instT (opI a)).length ∧ (cutL 46 a).length = 1 + (instT (opI a)).length ∧ ((cutL 46 a).tail.take x).all okI = true, μ := fun x => (instT (opI a)).length - x } else none
theorem rinst_does : Does Tryd.prog (glS mx) 66 (instSpec) := by
  refine Does.of (fn := Tryd.f66) Tryd.func66 rfl ttok (spec := lookS [(23, cutI), (50, nameI instL), (58, fnP instT 19), (8, numI), (31, insRSpec)]) (((((Known.nil.cons callee31 rinsRight_does).cons callee8 rnumI_does).cons callee58 pieces_does).cons callee50 rcpuNameI_does).cons callee23 cutI_does) (pc := fun _ => true) (((((PureOk.nil.cons (s := insRSpec) (k := 31) (fun _ _ => rfl)).cons (s := numI) (k := 8) (fun _ _ => rfl)).cons (s := fnP instT 19) (k := 58) (fun _ _ => rfl)).cons (s := nameI instL) (k := 50) (fun _ _ => rfl)).cons (s := cutI) (k := 23) (fun _ _ => rfl)) mixed (instSpec) (fun a id _ => rinstInv a id) (ord66) 3000 (rs := [.cell 2 78, .tmp 3]) rfl (n := 78) rfl (by decide) (by kernel_rfl) ?_
  intro (a : List UInt8) hp
  refine ⟨of_decide_eq_true (by kernel_rfl), ?_⟩
  refine vc_of (Q := a.length < (4294967281 : Nat) ∧ a = a ∧ true = true ∧ (46 : Int) = (46 : Int) ∧ true = true ∧ ∀ (b : Unit), True → (∃ (x : Nat), (x ≤ (19 : Nat) ∧ ∀ (j : Nat), j < x → instL.getD j [] ≠ (cutL (46 : UInt8) a).getD (0 : Nat) []) ∧ true = true ∧ true = true ∧ (↑x : Int) = (0 : Int) ∧ (0 : Nat) < (2 : Nat) ∧ some (0 : Nat) = some (0 : Nat) ∧ (0 : Nat) = (0 : Nat) ∧ (1 : Nat) < (2 : Nat) ∧ some (1 : Nat) = some (1 : Nat) ∧ (1 : Nat) < (2 : Nat) ∧ (9 : TypeId) = (9 : TypeId) ∧ (1 : Nat) = (1 : Nat) ∧ (cutL (UInt8.ofNat (46 : Nat)) a).length = (cutL (UInt8.ofNat (46 : Nat)) a).length ∧ (∀ (i j : Nat), i < (cutL (UInt8.ofNat (46 : Nat)) a).length → j < (1 : Nat) → CV.str ((cutL (UInt8.ofNat (46 : Nat)) a).getD i []) = CV.str ((cutL (UInt8.ofNat (46 : Nat)) a).getD i [])) ∧ (0 : Nat) < (2 : Nat) ∧ (78 : Nat) = (78 : Nat) ∧ true = true ∧ (0 : Int) = (0 : Int) ∧ true = true ∧ (0 : Int) = (0 : Int) ∧ true = true ∧ (0 : Int) = (0 : Int) ∧ true = true ∧ (0 : Int) = (0 : Int) ∧ true = true ∧ (0 : Int) = (0 : Int) ∧ True) ∧ ∀ (x : Nat), (x ≤ (19 : Nat) ∧ ∀ (j : Nat), j < x → instL.getD j [] ≠ (cutL (46 : UInt8) a).getD (0 : Nat) []) → bif decide ((↑x : Int) < (19 : Int)) then ((0 : Int) ≤ (0 : Int) ∧ (0 : Int) < (↑(cutL (UInt8.ofNat (46 : Nat)) a).length : Int)) ∧ (0 : Nat) < (cutL (UInt8.ofNat (46 : Nat)) a).length ∧ (1 : Nat) = (1 : Nat) ∧ (1 : Nat) ≤ (1 : Nat) ∧ true = true ∧ True ∧ true = true ∧ (↑x : Int) = (↑x : Int) ∧ true = true ∧ ∀ (b : Unit), True → bif !decide (nameAt instL (↑x : Int) = (cutL (UInt8.ofNat (46 : Nat)) a).getD (0 : Nat) []) then ∃ (x' : Nat), (x' ≤ (19 : Nat) ∧ ∀ (j : Nat), j < x' → instL.getD j [] ≠ (cutL (46 : UInt8) a).getD (0 : Nat) []) ∧ (19 : Nat) - x' < (19 : Nat) - x ∧ true = true ∧ true = true ∧ (↑x' : Int) = IntKind.i64.wrap ((↑x : Int) + (1 : Int)) ∧ (0 : Nat) < (2 : Nat) ∧ some (0 : Nat) = some (0 : Nat) ∧ (0 : Nat) = (0 : Nat) ∧ (1 : Nat) < (2 : Nat) ∧ some (1 : Nat) = some (1 : Nat) ∧ (1 : Nat) < (2 : Nat) ∧ (9 : TypeId) = (9 : TypeId) ∧ (1 : Nat) = (1 : Nat) ∧ (cutL (UInt8.ofNat (46 : Nat)) a).length = (cutL (UInt8.ofNat (46 : Nat)) a).length ∧ (∀ (i j : Nat), i < (cutL (UInt8.ofNat (46 : Nat)) a).length → j < (1 : Nat) → CV.str ((cutL (UInt8.ofNat (46 : Nat)) a).getD i []) = CV.str ((cutL (UInt8.ofNat (46 : Nat)) a).getD i [])) ∧ (0 : Nat) < (2 : Nat) ∧ (78 : Nat) = (78 : Nat) ∧ true = true ∧ (0 : Int) = (0 : Int) ∧ true = true ∧ (0 : Int) = (0 : Int) ∧ true = true ∧ (0 : Int) = (0 : Int) ∧ true = true ∧ (0 : Int) = (0 : Int) ∧ true = true ∧ (0 : Int) = (0 : Int) ∧ True else ((0 : Int) ≤ (↑x : Int) ∧ (↑x : Int) < (19 : Int)) ∧ true = true ∧ (↑x : Int) = (↑x : Int) ∧ true = true ∧ ∀ (b : Unit), True → bif !decide ((↑(cutL (UInt8.ofNat (46 : Nat)) a).length : Int) = IntKind.i64.wrap ((↑(instT (↑x : Int)).length : Int) + (1 : Int))) then true = true ∧ (5 : Nat) = (5 : Nat) ∧ (5 : Nat) ≤ (5 : Nat) ∧ (5 : Nat) ≤ (5 : Nat) ∧ true = true ∧ true = true ∧ true = true ∧ true = true ∧ true = true ∧ ∃ (b : Ins), (∀ (t : Ins), instOf a = some t → b = t) ∧ true = true ∧ true = true ∧ b.op = (0 : Int) ∧ true = true ∧ b.a = (0 : Int) ∧ true = true ∧ b.b = (0 : Int) ∧ true = true ∧ b.c = (0 : Int) ∧ true = true ∧ b.n = (0 : Int) ∧ (instOf a).isSome = false ∧ True else true = true ∧ (5 : Nat) = (5 : Nat) ∧ (5 : Nat) ≤ (5 : Nat) ∧ (∃ (x_1 : Nat), (x_1 ≤ (instT (opI a)).length ∧ (cutL (46 : UInt8) a).length = (1 : Nat) + (instT (opI a)).length ∧ (List.take x_1 (cutL (46 : UInt8) a).tail).all okI = true) ∧ true = true ∧ true = true ∧ (↑x_1 : Int) + (1 : Int) = (1 : Int) ∧ (0 : Nat) < (3 : Nat) ∧ some (0 : Nat) = some (0 : Nat) ∧ (0 : Nat) = (0 : Nat) ∧ (1 : Nat) < (3 : Nat) ∧ some (1 : Nat) = some (1 : Nat) ∧ true = true ∧ (↑x : Int) = (↑x : Int) ∧ (2 : Nat) < (3 : Nat) ∧ some (2 : Nat) = some (2 : Nat) ∧ (0 : Nat) = (0 : Nat) ∧ (2 : Nat) < (3 : Nat) ∧ (78 : TypeId) = (78 : Nat) ∧ true = true ∧ (insTo (opI a) (cutL (46 : UInt8) a).tail x_1).op = (↑x : Int) ∧ true = true ∧ (insTo (opI a) (cutL (46 : UInt8) a).tail x_1).a = (0 : Int) ∧ true = true ∧ (insTo (opI a) (cutL (46 : UInt8) a).tail x_1).b = (0 : Int) ∧ true = true ∧ (insTo (opI a) (cutL (46 : UInt8) a).tail x_1).c = (0 : Int) ∧ true = true ∧ (insTo (opI a) (cutL (46 : UInt8) a).tail x_1).n = (0 : Int) ∧ (1 : Nat) < (3 : Nat) ∧ (9 : TypeId) = (9 : TypeId) ∧ (1 : Nat) = (1 : Nat) ∧ (cutL (UInt8.ofNat (46 : Nat)) a).length = (cutL (UInt8.ofNat (46 : Nat)) a).length ∧ (∀ (i j : Nat), i < (cutL (UInt8.ofNat (46 : Nat)) a).length → j < (1 : Nat) → CV.str ((cutL (UInt8.ofNat (46 : Nat)) a).getD i []) = CV.str ((cutL (UInt8.ofNat (46 : Nat)) a).getD i [])) ∧ (0 : Nat) < (3 : Nat) ∧ (78 : Nat) = (78 : Nat) ∧ true = true ∧ (0 : Int) = (0 : Int) ∧ true = true ∧ (0 : Int) = (0 : Int) ∧ true = true ∧ (0 : Int) = (0 : Int) ∧ true = true ∧ (0 : Int) = (0 : Int) ∧ true = true ∧ (0 : Int) = (0 : Int) ∧ True) ∧ ∀ (x_1 : Nat), x_1 ≤ (instT (opI a)).length ∧ (cutL (46 : UInt8) a).length = (1 : Nat) + (instT (opI a)).length ∧ (List.take x_1 (cutL (46 : UInt8) a).tail).all okI = true → bif decide ((↑x_1 : Int) + (1 : Int) < (↑(cutL (UInt8.ofNat (46 : Nat)) a).length : Int)) then ((0 : Int) ≤ (↑x_1 : Int) + (1 : Int) ∧ (↑x_1 : Int) + (1 : Int) < (↑(cutL (UInt8.ofNat (46 : Nat)) a).length : Int)) ∧ ((↑x_1 : Int) + (1 : Int)).toNat < (cutL (UInt8.ofNat (46 : Nat)) a).length ∧ (1 : Nat) = (1 : Nat) ∧ (1 : Nat) ≤ (1 : Nat) ∧ true = true ∧ ((0 : Int) ≤ (17592186044415 : Int) ∧ (17592186044415 : Int) < (18446744073709551616 : Int)) ∧ (cutL (UInt8.ofNat (46 : Nat)) a).getD ((↑x_1 : Int) + (1 : Int)).toNat [] = (cutL (UInt8.ofNat (46 : Nat)) a).getD ((↑x_1 : Int) + (1 : Int)).toNat [] ∧ true = true ∧ (17592186044415 : Int) = (17592186044415 : Int) ∧ true = true ∧ ∀ (b : Unit), True → bif !(numAns ((cutL (UInt8.ofNat (46 : Nat)) a).getD ((↑x_1 : Int) + (1 : Int)).toNat []) (17592186044415 : Int)).snd then true = true ∧ (5 : Nat) = (5 : Nat) ∧ (5 : Nat) ≤ (5 : Nat) ∧ (5 : Nat) ≤ (5 : Nat) ∧ true = true ∧ true = true ∧ true = true ∧ true = true ∧ true = true ∧ ∃ (b : Ins), (∀ (t : Ins), instOf a = some t → b = t) ∧ true = true ∧ true = true ∧ b.op = (0 : Int) ∧ true = true ∧ b.a = (0 : Int) ∧ true = true ∧ b.b = (0 : Int) ∧ true = true ∧ b.c = (0 : Int) ∧ true = true ∧ b.n = (0 : Int) ∧ (instOf a).isSome = false ∧ True else ((0 : Int) ≤ (↑x : Int) ∧ (↑x : Int) < (19 : Int)) ∧ true = true ∧ (↑x : Int) = (↑x : Int) ∧ true = true ∧ ∀ (b : Unit), True → ((0 : Int) ≤ IntKind.i64.wrap ((↑x_1 : Int) + (1 : Int) - (1 : Int)) ∧ IntKind.i64.wrap ((↑x_1 : Int) + (1 : Int) - (1 : Int)) < (↑(instT (↑x : Int)).length : Int)) ∧ bif decide ((↑((instT (↑x : Int)).getD (IntKind.i64.wrap ((↑x_1 : Int) + (1 : Int) - (1 : Int))).toNat (0 : UInt8)).toNat : Int) = (65 : Int)) then true = true ∧ (1 : Nat) = (1 : Nat) ∧ (2 : Nat) ≤ (5 : Nat) ∧ bif decide ((↑((instT (↑x : Int)).getD (IntKind.i64.wrap ((↑x_1 : Int) + (1 : Int) - (1 : Int))).toNat (0 : UInt8)).toNat : Int) = (66 : Int)) then true = true ∧ (1 : Nat) = (1 : Nat) ∧ (3 : Nat) ≤ (5 : Nat) ∧ bif decide ((↑((instT (↑x : Int)).getD (IntKind.i64.wrap ((↑x_1 : Int) + (1 : Int) - (1 : Int))).toNat (0 : UInt8)).toNat : Int) = (67 : Int)) then true = true ∧ (1 : Nat) = (1 : Nat) ∧ (4 : Nat) ≤ (5 : Nat) ∧ bif decide ((↑((instT (↑x : Int)).getD (IntKind.i64.wrap ((↑x_1 : Int) + (1 : Int) - (1 : Int))).toNat (0 : UInt8)).toNat : Int) = (78 : Int)) then true = true ∧ (1 : Nat) = (1 : Nat) ∧ (5 : Nat) ≤ (5 : Nat) ∧ ∃ (x' : Nat), (x' ≤ (instT (opI a)).length ∧ (cutL (46 : UInt8) a).length = (1 : Nat) + (instT (opI a)).length ∧ (List.take x' (cutL (46 : UInt8) a).tail).all okI = true) ∧ (instT (opI a)).length - x' < (instT (opI a)).length - x_1 ∧ true = true ∧ true = true ∧ (↑x' : Int) + (1 : Int) = IntKind.i64.wrap ((↑x_1 : Int) + (1 : Int) + (1 : Int)) ∧ (0 : Nat) < (3 : Nat) ∧ some (0 : Nat) = some (0 : Nat) ∧ (0 : Nat) = (0 : Nat) ∧ (1 : Nat) < (3 : Nat) ∧ some (1 : Nat) = some (1 : Nat) ∧ true = true ∧ (↑x : Int) = (↑x : Int) ∧ (2 : Nat) < (3 : Nat) ∧ some (2 : Nat) = some (2 : Nat) ∧ (0 : Nat) = (0 : Nat) ∧ (2 : Nat) < (3 : Nat) ∧ (78 : TypeId) = (78 : TypeId) ∧ true = true ∧ (insTo (opI a) (cutL (46 : UInt8) a).tail x').op = (insTo (opI a) (cutL (46 : UInt8) a).tail x_1).op ∧ true = true ∧ (insTo (opI a) (cutL (46 : UInt8) a).tail x').a = IntKind.i64.wrap (numAns ((cutL (UInt8.ofNat (46 : Nat)) a).getD ((↑x_1 : Int) + (1 : Int)).toNat []) (17592186044415 : Int)).fst ∧ true = true ∧ (insTo (opI a) (cutL (46 : UInt8) a).tail x').b = IntKind.i64.wrap (numAns ((cutL (UInt8.ofNat (46 : Nat)) a).getD ((↑x_1 : Int) + (1 : Int)).toNat []) (17592186044415 : Int)).fst ∧ true = true ∧ (insTo (opI a) (cutL (46 : UInt8) a).tail x').c = IntKind.i64.wrap (numAns ((cutL (UInt8.ofNat (46 : Nat)) a).getD ((↑x_1 : Int) + (1 : Int)).toNat []) (17592186044415 : Int)).fst ∧ true = true ∧ (insTo (opI a) (cutL (46 : UInt8) a).tail x').n = (numAns ((cutL (UInt8.ofNat (46 : Nat)) a).getD ((↑x_1 : Int) + (1 : Int)).toNat []) (17592186044415 : Int)).fst ∧ (1 : Nat) < (3 : Nat) ∧ (9 : TypeId) = (9 : TypeId) ∧ (1 : Nat) = (1 : Nat) ∧ (cutL (UInt8.ofNat (46 : Nat)) a).length = (cutL (UInt8.ofNat (46 : Nat)) a).length ∧ (∀ (i j : Nat), i < (cutL (UInt8.ofNat (46 : Nat)) a).length → j < (1 : Nat) → CV.str ((cutL (UInt8.ofNat (46 : Nat)) a).getD i []) = CV.str ((cutL (UInt8.ofNat (46 : Nat)) a).getD i [])) ∧ (0 : Nat) < (3 : Nat) ∧ (78 : Nat) = (78 : Nat) ∧ true = true ∧ (0 : Int) = (0 : Int) ∧ true = true ∧ (0 : Int) = (0 : Int) ∧ true = true ∧ (0 : Int) = (0 : Int) ∧ true = true ∧ (0 : Int) = (0 : Int) ∧ true = true ∧ (0 : Int) = (0 : Int) ∧ True else ∃ (x' : Nat), (x' ≤ (instT (opI a)).length ∧ (cutL (46 : UInt8) a).length = (1 : Nat) + (instT (opI a)).length ∧ (List.take x' (cutL (46 : UInt8) a).tail).all okI = true) ∧ (instT (opI a)).length - x' < (instT (opI a)).length - x_1 ∧ true = true ∧ true = true ∧ (↑x' : Int) + (1 : Int) = IntKind.i64.wrap ((↑x_1 : Int) + (1 : Int) + (1 : Int)) ∧ (0 : Nat) < (3 : Nat) ∧ some (0 : Nat) = some (0 : Nat) ∧ (0 : Nat) = (0 : Nat) ∧ (1 : Nat) < (3 : Nat) ∧ some (1 : Nat) = some (1 : Nat) ∧ true = true ∧ (↑x : Int) = (↑x : Int) ∧ (2 : Nat) < (3 : Nat) ∧ some (2 : Nat) = some (2 : Nat) ∧ (0 : Nat) = (0 : Nat) ∧ (2 : Nat) < (3 : Nat) ∧ (78 : TypeId) = (78 : TypeId) ∧ true = true ∧ (insTo (opI a) (cutL (46 : UInt8) a).tail x').op = (insTo (opI a) (cutL (46 : UInt8) a).tail x_1).op ∧ true = true ∧ (insTo (opI a) (cutL (46 : UInt8) a).tail x').a = IntKind.i64.wrap (numAns ((cutL (UInt8.ofNat (46 : Nat)) a).getD ((↑x_1 : Int) + (1 : Int)).toNat []) (17592186044415 : Int)).fst ∧ true = true ∧ (insTo (opI a) (cutL (46 : UInt8) a).tail x').b = IntKind.i64.wrap (numAns ((cutL (UInt8.ofNat (46 : Nat)) a).getD ((↑x_1 : Int) + (1 : Int)).toNat []) (17592186044415 : Int)).fst ∧ true = true ∧ (insTo (opI a) (cutL (46 : UInt8) a).tail x').c = IntKind.i64.wrap (numAns ((cutL (UInt8.ofNat (46 : Nat)) a).getD ((↑x_1 : Int) + (1 : Int)).toNat []) (17592186044415 : Int)).fst ∧ true = true ∧ (insTo (opI a) (cutL (46 : UInt8) a).tail x').n = (insTo (opI a) (cutL (46 : UInt8) a).tail x_1).n ∧ (1 : Nat) < (3 : Nat) ∧ (9 : TypeId) = (9 : TypeId) ∧ (1 : Nat) = (1 : Nat) ∧ (cutL (UInt8.ofNat (46 : Nat)) a).length = (cutL (UInt8.ofNat (46 : Nat)) a).length ∧ (∀ (i j : Nat), i < (cutL (UInt8.ofNat (46 : Nat)) a).length → j < (1 : Nat) → CV.str ((cutL (UInt8.ofNat (46 : Nat)) a).getD i []) = CV.str ((cutL (UInt8.ofNat (46 : Nat)) a).getD i [])) ∧ (0 : Nat) < (3 : Nat) ∧ (78 : Nat) = (78 : Nat) ∧ true = true ∧ (0 : Int) = (0 : Int) ∧ true = true ∧ (0 : Int) = (0 : Int) ∧ true = true ∧ (0 : Int) = (0 : Int) ∧ true = true ∧ (0 : Int) = (0 : Int) ∧ true = true ∧ (0 : Int) = (0 : Int) ∧ True else bif decide ((↑((instT (↑x : Int)).getD (IntKind.i64.wrap ((↑x_1 : Int) + (1 : Int) - (1 : Int))).toNat (0 : UInt8)).toNat : Int) = (78 : Int)) then true = true ∧ (1 : Nat) = (1 : Nat) ∧ (5 : Nat) ≤ (5 : Nat) ∧ ∃ (x' : Nat), (x' ≤ (instT (opI a)).length ∧ (cutL (46 : UInt8) a).length = (1 : Nat) + (instT (opI a)).length ∧ (List.take x' (cutL (46 : UInt8) a).tail).all okI = true) ∧ (instT (opI a)).length - x' < (instT (opI a)).length - x_1 ∧ true = true ∧ true = true ∧ (↑x' : Int) + (1 : Int) = IntKind.i64.wrap ((↑x_1 : Int) + (1 : Int) + (1 : Int)) ∧ (0 : Nat) < (3 : Nat) ∧ some (0 : Nat) = some (0 : Nat) ∧ (0 : Nat) = (0 : Nat) ∧ (1 : Nat) < (3 : Nat) ∧ some (1 : Nat) = some (1 : Nat) ∧ true = true ∧ (↑x : Int) = (↑x : Int) ∧ (2 : Nat) < (3 : Nat) ∧ some (2 : Nat) = some (2 : Nat) ∧ (0 : Nat) = (0 : Nat) ∧ (2 : Nat) < (3 : Nat) ∧ (78 : TypeId) = (78 : TypeId) ∧ true = true ∧ (insTo (opI a) (cutL (46 : UInt8) a).tail x').op = (insTo (opI a) (cutL (46 : UInt8) a).tail x_1).op ∧ true = true ∧ (insTo (opI a) (cutL (46 : UInt8) a).tail x').a = IntKind.i64.wrap (numAns ((cutL (UInt8.ofNat (46 : Nat)) a).getD ((↑x_1 : Int) + (1 : Int)).toNat []) (17592186044415 : Int)).fst ∧ true = true ∧ (insTo (opI a) (cutL (46 : UInt8) a).tail x').b = IntKind.i64.wrap (numAns ((cutL (UInt8.ofNat (46 : Nat)) a).getD ((↑x_1 : Int) + (1 : Int)).toNat []) (17592186044415 : Int)).fst ∧ true = true ∧ (insTo (opI a) (cutL (46 : UInt8) a).tail x').c = (insTo (opI a) (cutL (46 : UInt8) a).tail x_1).c ∧ true = true ∧ (insTo (opI a) (cutL (46 : UInt8) a).tail x').n = (numAns ((cutL (UInt8.ofNat (46 : Nat)) a).getD ((↑x_1 : Int) + (1 : Int)).toNat []) (17592186044415 : Int)).fst ∧ (1 : Nat) < (3 : Nat) ∧ (9 : TypeId) = (9 : TypeId) ∧ (1 : Nat) = (1 : Nat) ∧ (cutL (UInt8.ofNat (46 : Nat)) a).length = (cutL (UInt8.ofNat (46 : Nat)) a).length ∧ (∀ (i j : Nat), i < (cutL (UInt8.ofNat (46 : Nat)) a).length → j < (1 : Nat) → CV.str ((cutL (UInt8.ofNat (46 : Nat)) a).getD i []) = CV.str ((cutL (UInt8.ofNat (46 : Nat)) a).getD i [])) ∧ (0 : Nat) < (3 : Nat) ∧ (78 : Nat) = (78 : Nat) ∧ true = true ∧ (0 : Int) = (0 : Int) ∧ true = true ∧ (0 : Int) = (0 : Int) ∧ true = true ∧ (0 : Int) = (0 : Int) ∧ true = true ∧ (0 : Int) = (0 : Int) ∧ true = true ∧ (0 : Int) = (0 : Int) ∧ True else ∃ (x' : Nat), (x' ≤ (instT (opI a)).length ∧ (cutL (46 : UInt8) a).length = (1 : Nat) + (instT (opI a)).length ∧ (List.take x' (cutL (46 : UInt8) a).tail).all okI = true) ∧ (instT (opI a)).length - x' < (instT (opI a)).length - x_1 ∧ true = true ∧ true = true ∧ (↑x' : Int) + (1 : Int) = IntKind.i64.wrap ((↑x_1 : Int) + (1 : Int) + (1 : Int)) ∧ (0 : Nat) < (3 : Nat) ∧ some (0 : Nat) = some (0 : Nat) ∧ (0 : Nat) = (0 : Nat) ∧ (1 : Nat) < (3 : Nat) ∧ some (1 : Nat) = some (1 : Nat) ∧ true = true ∧ (↑x : Int) = (↑x : Int) ∧ (2 : Nat) < (3 : Nat) ∧ some (2 : Nat) = some (2 : Nat) ∧ (0 : Nat) = (0 : Nat) ∧ (2 : Nat) < (3 : Nat) ∧ (78 : TypeId) = (78 : TypeId) ∧ true = true ∧ (insTo (opI a) (cutL (46 : UInt8) a).tail x').op = (insTo (opI a) (cutL (46 : UInt8) a).tail x_1).op ∧ true = true ∧ (insTo (opI a) (cutL (46 : UInt8) a).tail x').a = IntKind.i64.wrap (numAns ((cutL (UInt8.ofNat (46 : Nat)) a).getD ((↑x_1 : Int) + (1 : Int)).toNat []) (17592186044415 : Int)).fst ∧ true = true ∧ (insTo (opI a) (cutL (46 : UInt8) a).tail x').b = IntKind.i64.wrap (numAns ((cutL (UInt8.ofNat (46 : Nat)) a).getD ((↑x_1 : Int) + (1 : Int)).toNat []) (17592186044415 : Int)).fst ∧ true = true ∧ (insTo (opI a) (cutL (46 : UInt8) a).tail x').c = (insTo (opI a) (cutL (46 : UInt8) a).tail x_1).c ∧ true = true ∧ (insTo (opI a) (cutL (46 : UInt8) a).tail x').n = (insTo (opI a) (cutL (46 : UInt8) a).tail x_1).n ∧ (1 : Nat) < (3 : Nat) ∧ (9 : TypeId) = (9 : TypeId) ∧ (1 : Nat) = (1 : Nat) ∧ (cutL (UInt8.ofNat (46 : Nat)) a).length = (cutL (UInt8.ofNat (46 : Nat)) a).length ∧ (∀ (i j : Nat), i < (cutL (UInt8.ofNat (46 : Nat)) a).length → j < (1 : Nat) → CV.str ((cutL (UInt8.ofNat (46 : Nat)) a).getD i []) = CV.str ((cutL (UInt8.ofNat (46 : Nat)) a).getD i [])) ∧ (0 : Nat) < (3 : Nat) ∧ (78 : Nat) = (78 : Nat) ∧ true = true ∧ (0 : Int) = (0 : Int) ∧ true = true ∧ (0 : Int) = (0 : Int) ∧ true = true ∧ (0 : Int) = (0 : Int) ∧ true = true ∧ (0 : Int) = (0 : Int) ∧ true = true ∧ (0 : Int) = (0 : Int) ∧ True else bif decide ((↑((instT (↑x : Int)).getD (IntKind.i64.wrap ((↑x_1 : Int) + (1 : Int) - (1 : Int))).toNat (0 : UInt8)).toNat : Int) = (67 : Int)) then true = true ∧ (1 : Nat) = (1 : Nat) ∧ (4 : Nat) ≤ (5 : Nat) ∧ bif decide ((↑((instT (↑x : Int)).getD (IntKind.i64.wrap ((↑x_1 : Int) + (1 : Int) - (1 : Int))).toNat (0 : UInt8)).toNat : Int) = (78 : Int)) then true = true ∧ (1 : Nat) = (1 : Nat) ∧ (5 : Nat) ≤ (5 : Nat) ∧ ∃ (x' : Nat), (x' ≤ (instT (opI a)).length ∧ (cutL (46 : UInt8) a).length = (1 : Nat) + (instT (opI a)).length ∧ (List.take x' (cutL (46 : UInt8) a).tail).all okI = true) ∧ (instT (opI a)).length - x' < (instT (opI a)).length - x_1 ∧ true = true ∧ true = true ∧ (↑x' : Int) + (1 : Int) = IntKind.i64.wrap ((↑x_1 : Int) + (1 : Int) + (1 : Int)) ∧ (0 : Nat) < (3 : Nat) ∧ some (0 : Nat) = some (0 : Nat) ∧ (0 : Nat) = (0 : Nat) ∧ (1 : Nat) < (3 : Nat) ∧ some (1 : Nat) = some (1 : Nat) ∧ true = true ∧ (↑x : Int) = (↑x : Int) ∧ (2 : Nat) < (3 : Nat) ∧ some (2 : Nat) = some (2 : Nat) ∧ (0 : Nat) = (0 : Nat) ∧ (2 : Nat) < (3 : Nat) ∧ (78 : TypeId) = (78 : TypeId) ∧ true = true ∧ (insTo (opI a) (cutL (46 : UInt8) a).tail x').op = (insTo (opI a) (cutL (46 : UInt8) a).tail x_1).op ∧ true = true ∧ (insTo (opI a) (cutL (46 : UInt8) a).tail x').a = IntKind.i64.wrap (numAns ((cutL (UInt8.ofNat (46 : Nat)) a).getD ((↑x_1 : Int) + (1 : Int)).toNat []) (17592186044415 : Int)).fst ∧ true = true ∧ (insTo (opI a) (cutL (46 : UInt8) a).tail x').b = (insTo (opI a) (cutL (46 : UInt8) a).tail x_1).b ∧ true = true ∧ (insTo (opI a) (cutL (46 : UInt8) a).tail x').c = IntKind.i64.wrap (numAns ((cutL (UInt8.ofNat (46 : Nat)) a).getD ((↑x_1 : Int) + (1 : Int)).toNat []) (17592186044415 : Int)).fst ∧ true = true ∧ (insTo (opI a) (cutL (46 : UInt8) a).tail x').n = (numAns ((cutL (UInt8.ofNat (46 : Nat)) a).getD ((↑x_1 : Int) + (1 : Int)).toNat []) (17592186044415 : Int)).fst ∧ (1 : Nat) < (3 : Nat) ∧ (9 : TypeId) = (9 : TypeId) ∧ (1 : Nat) = (1 : Nat) ∧ (cutL (UInt8.ofNat (46 : Nat)) a).length = (cutL (UInt8.ofNat (46 : Nat)) a).length ∧ (∀ (i j : Nat), i < (cutL (UInt8.ofNat (46 : Nat)) a).length → j < (1 : Nat) → CV.str ((cutL (UInt8.ofNat (46 : Nat)) a).getD i []) = CV.str ((cutL (UInt8.ofNat (46 : Nat)) a).getD i [])) ∧ (0 : Nat) < (3 : Nat) ∧ (78 : Nat) = (78 : Nat) ∧ true = true ∧ (0 : Int) = (0 : Int) ∧ true = true ∧ (0 : Int) = (0 : Int) ∧ true = true ∧ (0 : Int) = (0 : Int) ∧ true = true ∧ (0 : Int) = (0 : Int) ∧ true = true ∧ (0 : Int) = (0 : Int) ∧ True else ∃ (x' : Nat), (x' ≤ (instT (opI a)).length ∧ (cutL (46 : UInt8) a).length = (1 : Nat) + (instT (opI a)).length ∧ (List.take x' (cutL (46 : UInt8) a).tail).all okI = true) ∧ (instT (opI a)).length - x' < (instT (opI a)).length - x_1 ∧ true = true ∧ true = true ∧ (↑x' : Int) + (1 : Int) = IntKind.i64.wrap ((↑x_1 : Int) + (1 : Int) + (1 : Int)) ∧ (0 : Nat) < (3 : Nat) ∧ some (0 : Nat) = some (0 : Nat) ∧ (0 : Nat) = (0 : Nat) ∧ (1 : Nat) < (3 : Nat) ∧ some (1 : Nat) = some (1 : Nat) ∧ true = true ∧ (↑x : Int) = (↑x : Int) ∧ (2 : Nat) < (3 : Nat) ∧ some (2 : Nat) = some (2 : Nat) ∧ (0 : Nat) = (0 : Nat) ∧ (2 : Nat) < (3 : Nat) ∧ (78 : TypeId) = (78 : TypeId) ∧ true = true ∧ (insTo (opI a) (cutL (46 : UInt8) a).tail x').op = (insTo (opI a) (cutL (46 : UInt8) a).tail x_1).op ∧ true = true ∧ (insTo (opI a) (cutL (46 : UInt8) a).tail x').a = IntKind.i64.wrap (numAns ((cutL (UInt8.ofNat (46 : Nat)) a).getD ((↑x_1 : Int) + (1 : Int)).toNat []) (17592186044415 : Int)).fst ∧ true = true ∧ (insTo (opI a) (cutL (46 : UInt8) a).tail x').b = (insTo (opI a) (cutL (46 : UInt8) a).tail x_1).b ∧ true = true ∧ (insTo (opI a) (cutL (46 : UInt8) a).tail x').c = IntKind.i64.wrap (numAns ((cutL (UInt8.ofNat (46 : Nat)) a).getD ((↑x_1 : Int) + (1 : Int)).toNat []) (17592186044415 : Int)).fst ∧ true = true ∧ (insTo (opI a) (cutL (46 : UInt8) a).tail x').n = (insTo (opI a) (cutL (46 : UInt8) a).tail x_1).n ∧ (1 : Nat) < (3 : Nat) ∧ (9 : TypeId) = (9 : TypeId) ∧ (1 : Nat) = (1 : Nat) ∧ (cutL (UInt8.ofNat (46 : Nat)) a).length = (cutL (UInt8.ofNat (46 : Nat)) a).length ∧ (∀ (i j : Nat), i < (cutL (UInt8.ofNat (46 : Nat)) a).length → j < (1 : Nat) → CV.str ((cutL (UInt8.ofNat (46 : Nat)) a).getD i []) = CV.str ((cutL (UInt8.ofNat (46 : Nat)) a).getD i [])) ∧ (0 : Nat) < (3 : Nat) ∧ (78 : Nat) = (78 : Nat) ∧ true = true ∧ (0 : Int) = (0 : Int) ∧ true = true ∧ (0 : Int) = (0 : Int) ∧ true = true ∧ (0 : Int) = (0 : Int) ∧ true = true ∧ (0 : Int) = (0 : Int) ∧ true = true ∧ (0 : Int) = (0 : Int) ∧ True else bif decide ((↑((instT (↑x : Int)).getD (IntKind.i64.wrap ((↑x_1 : Int) + (1 : Int) - (1 : Int))).toNat (0 : UInt8)).toNat : Int) = (78 : Int)) then true = true ∧ (1 : Nat) = (1 : Nat) ∧ (5 : Nat) ≤ (5 : Nat) ∧ ∃ (x' : Nat), (x' ≤ (instT (opI a)).length ∧ (cutL (46 : UInt8) a).length = (1 : Nat) + (instT (opI a)).length ∧ (List.take x' (cutL (46 : UInt8) a).tail).all okI = true) ∧ (instT (opI a)).length - x' < (instT (opI a)).length - x_1 ∧ true = true ∧ true = true ∧ (↑x' : Int) + (1 : Int) = IntKind.i64.wrap ((↑x_1 : Int) + (1 : Int) + (1 : Int)) ∧ (0 : Nat) < (3 : Nat) ∧ some (0 : Nat) = some (0 : Nat) ∧ (0 : Nat) = (0 : Nat) ∧ (1 : Nat) < (3 : Nat) ∧ some (1 : Nat) = some (1 : Nat) ∧ true = true ∧ (↑x : Int) = (↑x : Int) ∧ (2 : Nat) < (3 : Nat) ∧ some (2 : Nat) = some (2 : Nat) ∧ (0 : Nat) = (0 : Nat) ∧ (2 : Nat) < (3 : Nat) ∧ (78 : TypeId) = (78 : TypeId) ∧ true = true ∧ (insTo (opI a) (cutL (46 : UInt8) a).tail x').op = (insTo (opI a) (cutL (46 : UInt8) a).tail x_1).op ∧ true = true ∧ (insTo (opI a) (cutL (46 : UInt8) a).tail x').a = IntKind.i64.wrap (numAns ((cutL (UInt8.ofNat (46 : Nat)) a).getD ((↑x_1 : Int) + (1 : Int)).toNat []) (17592186044415 : Int)).fst ∧ true = true ∧ (insTo (opI a) (cutL (46 : UInt8) a).tail x').b = (insTo (opI a) (cutL (46 : UInt8) a).tail x_1).b ∧ true = true ∧ (insTo (opI a) (cutL (46 : UInt8) a).tail x').c = (insTo (opI a) (cutL (46 : UInt8) a).tail x_1).c ∧ true = true ∧ (insTo (opI a) (cutL (46 : UInt8) a).tail x').n = (numAns ((cutL (UInt8.ofNat (46 : Nat)) a).getD ((↑x_1 : Int) + (1 : Int)).toNat []) (17592186044415 : Int)).fst ∧ (1 : Nat) < (3 : Nat) ∧ (9 : TypeId) = (9 : TypeId) ∧ (1 : Nat) = (1 : Nat) ∧ (cutL (UInt8.ofNat (46 : Nat)) a).length = (cutL (UInt8.ofNat (46 : Nat)) a).length ∧ (∀ (i j : Nat), i < (cutL (UInt8.ofNat (46 : Nat)) a).length → j < (1 : Nat) → CV.str ((cutL (UInt8.ofNat (46 : Nat)) a).getD i []) = CV.str ((cutL (UInt8.ofNat (46 : Nat)) a).getD i [])) ∧ (0 : Nat) < (3 : Nat) ∧ (78 : Nat) = (78 : Nat) ∧ true = true ∧ (0 : Int) = (0 : Int) ∧ true = true ∧ (0 : Int) = (0 : Int) ∧ true = true ∧ (0 : Int) = (0 : Int) ∧ true = true ∧ (0 : Int) = (0 : Int) ∧ true = true ∧ (0 : Int) = (0 : Int) ∧ True else ∃ (x' : Nat), (x' ≤ (instT (opI a)).length ∧ (cutL (46 : UInt8) a).length = (1 : Nat) + (instT (opI a)).length ∧ (List.take x' (cutL (46 : UInt8) a).tail).all okI = true) ∧ (instT (opI a)).length - x' < (instT (opI a)).length - x_1 ∧ true = true ∧ true = true ∧ (↑x' : Int) + (1 : Int) = IntKind.i64.wrap ((↑x_1 : Int) + (1 : Int) + (1 : Int)) ∧ (0 : Nat) < (3 : Nat) ∧ some (0 : Nat) = some (0 : Nat) ∧ (0 : Nat) = (0 : Nat) ∧ (1 : Nat) < (3 : Nat) ∧ some (1 : Nat) = some (1 : Nat) ∧ true = true ∧ (↑x : Int) = (↑x : Int) ∧ (2 : Nat) < (3 : Nat) ∧ some (2 : Nat) = some (2 : Nat) ∧ (0 : Nat) = (0 : Nat) ∧ (2 : Nat) < (3 : Nat) ∧ (78 : TypeId) = (78 : TypeId) ∧ true = true ∧ (insTo (opI a) (cutL (46 : UInt8) a).tail x').op = (insTo (opI a) (cutL (46 : UInt8) a).tail x_1).op ∧ true = true ∧ (insTo (opI a) (cutL (46 : UInt8) a).tail x').a = IntKind.i64.wrap (numAns ((cutL (UInt8.ofNat (46 : Nat)) a).getD ((↑x_1 : Int) + (1 : Int)).toNat []) (17592186044415 : Int)).fst ∧ true = true ∧ (insTo (opI a) (cutL (46 : UInt8) a).tail x').b = (insTo (opI a) (cutL (46 : UInt8) a).tail x_1).b ∧ true = true ∧ (insTo (opI a) (cutL (46 : UInt8) a).tail x').c = (insTo (opI a) (cutL (46 : UInt8) a).tail x_1).c ∧ true = true ∧ (insTo (opI a) (cutL (46 : UInt8) a).tail x').n = (insTo (opI a) (cutL (46 : UInt8) a).tail x_1).n ∧ (1 : Nat) < (3 : Nat) ∧ (9 : TypeId) = (9 : TypeId) ∧ (1 : Nat) = (1 : Nat) ∧ (cutL (UInt8.ofNat (46 : Nat)) a).length = (cutL (UInt8.ofNat (46 : Nat)) a).length ∧ (∀ (i j : Nat), i < (cutL (UInt8.ofNat (46 : Nat)) a).length → j < (1 : Nat) → CV.str ((cutL (UInt8.ofNat (46 : Nat)) a).getD i []) = CV.str ((cutL (UInt8.ofNat (46 : Nat)) a).getD i [])) ∧ (0 : Nat) < (3 : Nat) ∧ (78 : Nat) = (78 : Nat) ∧ true = true ∧ (0 : Int) = (0 : Int) ∧ true = true ∧ (0 : Int) = (0 : Int) ∧ true = true ∧ (0 : Int) = (0 : Int) ∧ true = true ∧ (0 : Int) = (0 : Int) ∧ true = true ∧ (0 : Int) = (0 : Int) ∧ True else bif decide ((↑((instT (↑x : Int)).getD (IntKind.i64.wrap ((↑x_1 : Int) + (1 : Int) - (1 : Int))).toNat (0 : UInt8)).toNat : Int) = (66 : Int)) then true = true ∧ (1 : Nat) = (1 : Nat) ∧ (3 : Nat) ≤ (5 : Nat) ∧ bif decide ((↑((instT (↑x : Int)).getD (IntKind.i64.wrap ((↑x_1 : Int) + (1 : Int) - (1 : Int))).toNat (0 : UInt8)).toNat : Int) = (67 : Int)) then true = true ∧ (1 : Nat) = (1 : Nat) ∧ (4 : Nat) ≤ (5 : Nat) ∧ bif decide ((↑((instT (↑x : Int)).getD (IntKind.i64.wrap ((↑x_1 : Int) + (1 : Int) - (1 : Int))).toNat (0 : UInt8)).toNat : Int) = (78 : Int)) then true = true ∧ (1 : Nat) = (1 : Nat) ∧ (5 : Nat) ≤ (5 : Nat) ∧ ∃ (x' : Nat), (x' ≤ (instT (opI a)).length ∧ (cutL (46 : UInt8) a).length = (1 : Nat) + (instT (opI a)).length ∧ (List.take x' (cutL (46 : UInt8) a).tail).all okI = true) ∧ (instT (opI a)).length - x' < (instT (opI a)).length - x_1 ∧ true = true ∧ true = true ∧ (↑x' : Int) + (1 : Int) = IntKind.i64.wrap ((↑x_1 : Int) + (1 : Int) + (1 : Int)) ∧ (0 : Nat) < (3 : Nat) ∧ some (0 : Nat) = some (0 : Nat) ∧ (0 : Nat) = (0 : Nat) ∧ (1 : Nat) < (3 : Nat) ∧ some (1 : Nat) = some (1 : Nat) ∧ true = true ∧ (↑x : Int) = (↑x : Int) ∧ (2 : Nat) < (3 : Nat) ∧ some (2 : Nat) = some (2 : Nat) ∧ (0 : Nat) = (0 : Nat) ∧ (2 : Nat) < (3 : Nat) ∧ (78 : TypeId) = (78 : TypeId) ∧ true = true ∧ (insTo (opI a) (cutL (46 : UInt8) a).tail x').op = (insTo (opI a) (cutL (46 : UInt8) a).tail x_1).op ∧ true = true ∧ (insTo (opI a) (cutL (46 : UInt8) a).tail x').a = (insTo (opI a) (cutL (46 : UInt8) a).tail x_1).a ∧ true = true ∧ (insTo (opI a) (cutL (46 : UInt8) a).tail x').b = IntKind.i64.wrap (numAns ((cutL (UInt8.ofNat (46 : Nat)) a).getD ((↑x_1 : Int) + (1 : Int)).toNat []) (17592186044415 : Int)).fst ∧ true = true ∧ (insTo (opI a) (cutL (46 : UInt8) a).tail x').c = IntKind.i64.wrap (numAns ((cutL (UInt8.ofNat (46 : Nat)) a).getD ((↑x_1 : Int) + (1 : Int)).toNat []) (17592186044415 : Int)).fst ∧ true = true ∧ (insTo (opI a) (cutL (46 : UInt8) a).tail x').n = (numAns ((cutL (UInt8.ofNat (46 : Nat)) a).getD ((↑x_1 : Int) + (1 : Int)).toNat []) (17592186044415 : Int)).fst ∧ (1 : Nat) < (3 : Nat) ∧ (9 : TypeId) = (9 : TypeId) ∧ (1 : Nat) = (1 : Nat) ∧ (cutL (UInt8.ofNat (46 : Nat)) a).length = (cutL (UInt8.ofNat (46 : Nat)) a).length ∧ (∀ (i j : Nat), i < (cutL (UInt8.ofNat (46 : Nat)) a).length → j < (1 : Nat) → CV.str ((cutL (UInt8.ofNat (46 : Nat)) a).getD i []) = CV.str ((cutL (UInt8.ofNat (46 : Nat)) a).getD i [])) ∧ (0 : Nat) < (3 : Nat) ∧ (78 : Nat) = (78 : Nat) ∧ true = true ∧ (0 : Int) = (0 : Int) ∧ true = true ∧ (0 : Int) = (0 : Int) ∧ true = true ∧ (0 : Int) = (0 : Int) ∧ true = true ∧ (0 : Int) = (0 : Int) ∧ true = true ∧ (0 : Int) = (0 : Int) ∧ True else ∃ (x' : Nat), (x' ≤ (instT (opI a)).length ∧ (cutL (46 : UInt8) a).length = (1 : Nat) + (instT (opI a)).length ∧ (List.take x' (cutL (46 : UInt8) a).tail).all okI = true) ∧ (instT (opI a)).length - x' < (instT (opI a)).length - x_1 ∧ true = true ∧ true = true ∧ (↑x' : Int) + (1 : Int) = IntKind.i64.wrap ((↑x_1 : Int) + (1 : Int) + (1 : Int)) ∧ (0 : Nat) < (3 : Nat) ∧ some (0 : Nat) = some (0 : Nat) ∧ (0 : Nat) = (0 : Nat) ∧ (1 : Nat) < (3 : Nat) ∧ some (1 : Nat) = some (1 : Nat) ∧ true = true ∧ (↑x : Int) = (↑x : Int) ∧ (2 : Nat) < (3 : Nat) ∧ some (2 : Nat) = some (2 : Nat) ∧ (0 : Nat) = (0 : Nat) ∧ (2 : Nat) < (3 : Nat) ∧ (78 : TypeId) = (78 : TypeId) ∧ true = true ∧ (insTo (opI a) (cutL (46 : UInt8) a).tail x').op = (insTo (opI a) (cutL (46 : UInt8) a).tail x_1).op ∧ true = true ∧ (insTo (opI a) (cutL (46 : UInt8) a).tail x').a = (insTo (opI a) (cutL (46 : UInt8) a).tail x_1).a ∧ true = true ∧ (insTo (opI a) (cutL (46 : UInt8) a).tail x').b = IntKind.i64.wrap (numAns ((cutL (UInt8.ofNat (46 : Nat)) a).getD ((↑x_1 : Int) + (1 : Int)).toNat []) (17592186044415 : Int)).fst ∧ true = true ∧ (insTo (opI a) (cutL (46 : UInt8) a).tail x').c = IntKind.i64.wrap (numAns ((cutL (UInt8.ofNat (46 : Nat)) a).getD ((↑x_1 : Int) + (1 : Int)).toNat []) (17592186044415 : Int)).fst ∧ true = true ∧ (insTo (opI a) (cutL (46 : UInt8) a).tail x').n = (insTo (opI a) (cutL (46 : UInt8) a).tail x_1).n ∧ (1 : Nat) < (3 : Nat) ∧ (9 : TypeId) = (9 : TypeId) ∧ (1 : Nat) = (1 : Nat) ∧ (cutL (UInt8.ofNat (46 : Nat)) a).length = (cutL (UInt8.ofNat (46 : Nat)) a).length ∧ (∀ (i j : Nat), i < (cutL (UInt8.ofNat (46 : Nat)) a).length → j < (1 : Nat) → CV.str ((cutL (UInt8.ofNat (46 : Nat)) a).getD i []) = CV.str ((cutL (UInt8.ofNat (46 : Nat)) a).getD i [])) ∧ (0 : Nat) < (3 : Nat) ∧ (78 : Nat) = (78 : Nat) ∧ true = true ∧ (0 : Int) = (0 : Int) ∧ true = true ∧ (0 : Int) = (0 : Int) ∧ true = true ∧ (0 : Int) = (0 : Int) ∧ true = true ∧ (0 : Int) = (0 : Int) ∧ true = true ∧ (0 : Int) = (0 : Int) ∧ True else bif decide ((↑((instT (↑x : Int)).getD (IntKind.i64.wrap ((↑x_1 : Int) + (1 : Int) - (1 : Int))).toNat (0 : UInt8)).toNat : Int) = (78 : Int)) then true = true ∧ (1 : Nat) = (1 : Nat) ∧ (5 : Nat) ≤ (5 : Nat) ∧ ∃ (x' : Nat), (x' ≤ (instT (opI a)).length ∧ (cutL (46 : UInt8) a).length = (1 : Nat) + (instT (opI a)).length ∧ (List.take x' (cutL (46 : UInt8) a).tail).all okI = true) ∧ (instT (opI a)).length - x' < (instT (opI a)).length - x_1 ∧ true = true ∧ true = true ∧ (↑x' : Int) + (1 : Int) = IntKind.i64.wrap ((↑x_1 : Int) + (1 : Int) + (1 : Int)) ∧ (0 : Nat) < (3 : Nat) ∧ some (0 : Nat) = some (0 : Nat) ∧ (0 : Nat) = (0 : Nat) ∧ (1 : Nat) < (3 : Nat) ∧ some (1 : Nat) = some (1 : Nat) ∧ true = true ∧ (↑x : Int) = (↑x : Int) ∧ (2 : Nat) < (3 : Nat) ∧ some (2 : Nat) = some (2 : Nat) ∧ (0 : Nat) = (0 : Nat) ∧ (2 : Nat) < (3 : Nat) ∧ (78 : TypeId) = (78 : TypeId) ∧ true = true ∧ (insTo (opI a) (cutL (46 : UInt8) a).tail x').op = (insTo (opI a) (cutL (46 : UInt8) a).tail x_1).op ∧ true = true ∧ (insTo (opI a) (cutL (46 : UInt8) a).tail x').a = (insTo (opI a) (cutL (46 : UInt8) a).tail x_1).a ∧ true = true ∧ (insTo (opI a) (cutL (46 : UInt8) a).tail x').b = IntKind.i64.wrap (numAns ((cutL (UInt8.ofNat (46 : Nat)) a).getD ((↑x_1 : Int) + (1 : Int)).toNat []) (17592186044415 : Int)).fst ∧ true = true ∧ (insTo (opI a) (cutL (46 : UInt8) a).tail x').c = (insTo (opI a) (cutL (46 : UInt8) a).tail x_1).c ∧ true = true ∧ (insTo (opI a) (cutL (46 : UInt8) a).tail x').n = (numAns ((cutL (UInt8.ofNat (46 : Nat)) a).getD ((↑x_1 : Int) + (1 : Int)).toNat []) (17592186044415 : Int)).fst ∧ (1 : Nat) < (3 : Nat) ∧ (9 : TypeId) = (9 : TypeId) ∧ (1 : Nat) = (1 : Nat) ∧ (cutL (UInt8.ofNat (46 : Nat)) a).length = (cutL (UInt8.ofNat (46 : Nat)) a).length ∧ (∀ (i j : Nat), i < (cutL (UInt8.ofNat (46 : Nat)) a).length → j < (1 : Nat) → CV.str ((cutL (UInt8.ofNat (46 : Nat)) a).getD i []) = CV.str ((cutL (UInt8.ofNat (46 : Nat)) a).getD i [])) ∧ (0 : Nat) < (3 : Nat) ∧ (78 : Nat) = (78 : Nat) ∧ true = true ∧ (0 : Int) = (0 : Int) ∧ true = true ∧ (0 : Int) = (0 : Int) ∧ true = true ∧ (0 : Int) = (0 : Int) ∧ true = true ∧ (0 : Int) = (0 : Int) ∧ true = true ∧ (0 : Int) = (0 : Int) ∧ True else ∃ (x' : Nat), (x' ≤ (instT (opI a)).length ∧ (cutL (46 : UInt8) a).length = (1 : Nat) + (instT (opI a)).length ∧ (List.take x' (cutL (46 : UInt8) a).tail).all okI = true) ∧ (instT (opI a)).length - x' < (instT (opI a)).length - x_1 ∧ true = true ∧ true = true ∧ (↑x' : Int) + (1 : Int) = IntKind.i64.wrap ((↑x_1 : Int) + (1 : Int) + (1 : Int)) ∧ (0 : Nat) < (3 : Nat) ∧ some (0 : Nat) = some (0 : Nat) ∧ (0 : Nat) = (0 : Nat) ∧ (1 : Nat) < (3 : Nat) ∧ some (1 : Nat) = some (1 : Nat) ∧ true = true ∧ (↑x : Int) = (↑x : Int) ∧ (2 : Nat) < (3 : Nat) ∧ some (2 : Nat) = some (2 : Nat) ∧ (0 : Nat) = (0 : Nat) ∧ (2 : Nat) < (3 : Nat) ∧ (78 : TypeId) = (78 : TypeId) ∧ true = true ∧ (insTo (opI a) (cutL (46 : UInt8) a).tail x').op = (insTo (opI a) (cutL (46 : UInt8) a).tail x_1).op ∧ true = true ∧ (insTo (opI a) (cutL (46 : UInt8) a).tail x').a = (insTo (opI a) (cutL (46 : UInt8) a).tail x_1).a ∧ true = true ∧ (insTo (opI a) (cutL (46 : UInt8) a).tail x').b = IntKind.i64.wrap (numAns ((cutL (UInt8.ofNat (46 : Nat)) a).getD ((↑x_1 : Int) + (1 : Int)).toNat []) (17592186044415 : Int)).fst ∧ true = true ∧ (insTo (opI a) (cutL (46 : UInt8) a).tail x').c = (insTo (opI a) (cutL (46 : UInt8) a).tail x_1).c ∧ true = true ∧ (insTo (opI a) (cutL (46 : UInt8) a).tail x').n = (insTo (opI a) (cutL (46 : UInt8) a).tail x_1).n ∧ (1 : Nat) < (3 : Nat) ∧ (9 : TypeId) = (9 : TypeId) ∧ (1 : Nat) = (1 : Nat) ∧ (cutL (UInt8.ofNat (46 : Nat)) a).length = (cutL (UInt8.ofNat (46 : Nat)) a).length ∧ (∀ (i j : Nat), i < (cutL (UInt8.ofNat (46 : Nat)) a).length → j < (1 : Nat) → CV.str ((cutL (UInt8.ofNat (46 : Nat)) a).getD i []) = CV.str ((cutL (UInt8.ofNat (46 : Nat)) a).getD i [])) ∧ (0 : Nat) < (3 : Nat) ∧ (78 : Nat) = (78 : Nat) ∧ true = true ∧ (0 : Int) = (0 : Int) ∧ true = true ∧ (0 : Int) = (0 : Int) ∧ true = true ∧ (0 : Int) = (0 : Int) ∧ true = true ∧ (0 : Int) = (0 : Int) ∧ true = true ∧ (0 : Int) = (0 : Int) ∧ True else bif decide ((↑((instT (↑x : Int)).getD (IntKind.i64.wrap ((↑x_1 : Int) + (1 : Int) - (1 : Int))).toNat (0 : UInt8)).toNat : Int) = (67 : Int)) then true = true ∧ (1 : Nat) = (1 : Nat) ∧ (4 : Nat) ≤ (5 : Nat) ∧ bif decide ((↑((instT (↑x : Int)).getD (IntKind.i64.wrap ((↑x_1 : Int) + (1 : Int) - (1 : Int))).toNat (0 : UInt8)).toNat : Int) = (78 : Int)) then true = true ∧ (1 : Nat) = (1 : Nat) ∧ (5 : Nat) ≤ (5 : Nat) ∧ ∃ (x' : Nat), (x' ≤ (instT (opI a)).length ∧ (cutL (46 : UInt8) a).length = (1 : Nat) + (instT (opI a)).length ∧ (List.take x' (cutL (46 : UInt8) a).tail).all okI = true) ∧ (instT (opI a)).length - x' < (instT (opI a)).length - x_1 ∧ true = true ∧ true = true ∧ (↑x' : Int) + (1 : Int) = IntKind.i64.wrap ((↑x_1 : Int) + (1 : Int) + (1 : Int)) ∧ (0 : Nat) < (3 : Nat) ∧ some (0 : Nat) = some (0 : Nat) ∧ (0 : Nat) = (0 : Nat) ∧ (1 : Nat) < (3 : Nat) ∧ some (1 : Nat) = some (1 : Nat) ∧ true = true ∧ (↑x : Int) = (↑x : Int) ∧ (2 : Nat) < (3 : Nat) ∧ some (2 : Nat) = some (2 : Nat) ∧ (0 : Nat) = (0 : Nat) ∧ (2 : Nat) < (3 : Nat) ∧ (78 : TypeId) = (78 : TypeId) ∧ true = true ∧ (insTo (opI a) (cutL (46 : UInt8) a).tail x').op = (insTo (opI a) (cutL (46 : UInt8) a).tail x_1).op ∧ true = true ∧ (insTo (opI a) (cutL (46 : UInt8) a).tail x').a = (insTo (opI a) (cutL (46 : UInt8) a).tail x_1).a ∧ true = true ∧ (insTo (opI a) (cutL (46 : UInt8) a).tail x').b = (insTo (opI a) (cutL (46 : UInt8) a).tail x_1).b ∧ true = true ∧ (insTo (opI a) (cutL (46 : UInt8) a).tail x').c = IntKind.i64.wrap (numAns ((cutL (UInt8.ofNat (46 : Nat)) a).getD ((↑x_1 : Int) + (1 : Int)).toNat []) (17592186044415 : Int)).fst ∧ true = true ∧ (insTo (opI a) (cutL (46 : UInt8) a).tail x').n = (numAns ((cutL (UInt8.ofNat (46 : Nat)) a).getD ((↑x_1 : Int) + (1 : Int)).toNat []) (17592186044415 : Int)).fst ∧ (1 : Nat) < (3 : Nat) ∧ (9 : TypeId) = (9 : TypeId) ∧ (1 : Nat) = (1 : Nat) ∧ (cutL (UInt8.ofNat (46 : Nat)) a).length = (cutL (UInt8.ofNat (46 : Nat)) a).length ∧ (∀ (i j : Nat), i < (cutL (UInt8.ofNat (46 : Nat)) a).length → j < (1 : Nat) → CV.str ((cutL (UInt8.ofNat (46 : Nat)) a).getD i []) = CV.str ((cutL (UInt8.ofNat (46 : Nat)) a).getD i [])) ∧ (0 : Nat) < (3 : Nat) ∧ (78 : Nat) = (78 : Nat) ∧ true = true ∧ (0 : Int) = (0 : Int) ∧ true = true ∧ (0 : Int) = (0 : Int) ∧ true = true ∧ (0 : Int) = (0 : Int) ∧ true = true ∧ (0 : Int) = (0 : Int) ∧ true = true ∧ (0 : Int) = (0 : Int) ∧ True else ∃ (x' : Nat), (x' ≤ (instT (opI a)).length ∧ (cutL (46 : UInt8) a).length = (1 : Nat) + (instT (opI a)).length ∧ (List.take x' (cutL (46 : UInt8) a).tail).all okI = true) ∧ (instT (opI a)).length - x' < (instT (opI a)).length - x_1 ∧ true = true ∧ true = true ∧ (↑x' : Int) + (1 : Int) = IntKind.i64.wrap ((↑x_1 : Int) + (1 : Int) + (1 : Int)) ∧ (0 : Nat) < (3 : Nat) ∧ some (0 : Nat) = some (0 : Nat) ∧ (0 : Nat) = (0 : Nat) ∧ (1 : Nat) < (3 : Nat) ∧ some (1 : Nat) = some (1 : Nat) ∧ true = true ∧ (↑x : Int) = (↑x : Int) ∧ (2 : Nat) < (3 : Nat) ∧ some (2 : Nat) = some (2 : Nat) ∧ (0 : Nat) = (0 : Nat) ∧ (2 : Nat) < (3 : Nat) ∧ (78 : TypeId) = (78 : TypeId) ∧ true = true ∧ (insTo (opI a) (cutL (46 : UInt8) a).tail x').op = (insTo (opI a) (cutL (46 : UInt8) a).tail x_1).op ∧ true = true ∧ (insTo (opI a) (cutL (46 : UInt8) a).tail x').a = (insTo (opI a) (cutL (46 : UInt8) a).tail x_1).a ∧ true = true ∧ (insTo (opI a) (cutL (46 : UInt8) a).tail x').b = (insTo (opI a) (cutL (46 : UInt8) a).tail x_1).b ∧ true = true ∧ (insTo (opI a) (cutL (46 : UInt8) a).tail x').c = IntKind.i64.wrap (numAns ((cutL (UInt8.ofNat (46 : Nat)) a).getD ((↑x_1 : Int) + (1 : Int)).toNat []) (17592186044415 : Int)).fst ∧ true = true ∧ (insTo (opI a) (cutL (46 : UInt8) a).tail x').n = (insTo (opI a) (cutL (46 : UInt8) a).tail x_1).n ∧ (1 : Nat) < (3 : Nat) ∧ (9 : TypeId) = (9 : TypeId) ∧ (1 : Nat) = (1 : Nat) ∧ (cutL (UInt8.ofNat (46 : Nat)) a).length = (cutL (UInt8.ofNat (46 : Nat)) a).length ∧ (∀ (i j : Nat), i < (cutL (UInt8.ofNat (46 : Nat)) a).length → j < (1 : Nat) → CV.str ((cutL (UInt8.ofNat (46 : Nat)) a).getD i []) = CV.str ((cutL (UInt8.ofNat (46 : Nat)) a).getD i [])) ∧ (0 : Nat) < (3 : Nat) ∧ (78 : Nat) = (78 : Nat) ∧ true = true ∧ (0 : Int) = (0 : Int) ∧ true = true ∧ (0 : Int) = (0 : Int) ∧ true = true ∧ (0 : Int) = (0 : Int) ∧ true = true ∧ (0 : Int) = (0 : Int) ∧ true = true ∧ (0 : Int) = (0 : Int) ∧ True else bif decide ((↑((instT (↑x : Int)).getD (IntKind.i64.wrap ((↑x_1 : Int) + (1 : Int) - (1 : Int))).toNat (0 : UInt8)).toNat : Int) = (78 : Int)) then true = true ∧ (1 : Nat) = (1 : Nat) ∧ (5 : Nat) ≤ (5 : Nat) ∧ ∃ (x' : Nat), (x' ≤ (instT (opI a)).length ∧ (cutL (46 : UInt8) a).length = (1 : Nat) + (instT (opI a)).length ∧ (List.take x' (cutL (46 : UInt8) a).tail).all okI = true) ∧ (instT (opI a)).length - x' < (instT (opI a)).length - x_1 ∧ true = true ∧ true = true ∧ (↑x' : Int) + (1 : Int) = IntKind.i64.wrap ((↑x_1 : Int) + (1 : Int) + (1 : Int)) ∧ (0 : Nat) < (3 : Nat) ∧ some (0 : Nat) = some (0 : Nat) ∧ (0 : Nat) = (0 : Nat) ∧ (1 : Nat) < (3 : Nat) ∧ some (1 : Nat) = some (1 : Nat) ∧ true = true ∧ (↑x : Int) = (↑x : Int) ∧ (2 : Nat) < (3 : Nat) ∧ some (2 : Nat) = some (2 : Nat) ∧ (0 : Nat) = (0 : Nat) ∧ (2 : Nat) < (3 : Nat) ∧ (78 : TypeId) = (78 : TypeId) ∧ true = true ∧ (insTo (opI a) (cutL (46 : UInt8) a).tail x').op = (insTo (opI a) (cutL (46 : UInt8) a).tail x_1).op ∧ true = true ∧ (insTo (opI a) (cutL (46 : UInt8) a).tail x').a = (insTo (opI a) (cutL (46 : UInt8) a).tail x_1).a ∧ true = true ∧ (insTo (opI a) (cutL (46 : UInt8) a).tail x').b = (insTo (opI a) (cutL (46 : UInt8) a).tail x_1).b ∧ true = true ∧ (insTo (opI a) (cutL (46 : UInt8) a).tail x').c = (insTo (opI a) (cutL (46 : UInt8) a).tail x_1).c ∧ true = true ∧ (insTo (opI a) (cutL (46 : UInt8) a).tail x').n = (numAns ((cutL (UInt8.ofNat (46 : Nat)) a).getD ((↑x_1 : Int) + (1 : Int)).toNat []) (17592186044415 : Int)).fst ∧ (1 : Nat) < (3 : Nat) ∧ (9 : TypeId) = (9 : TypeId) ∧ (1 : Nat) = (1 : Nat) ∧ (cutL (UInt8.ofNat (46 : Nat)) a).length = (cutL (UInt8.ofNat (46 : Nat)) a).length ∧ (∀ (i j : Nat), i < (cutL (UInt8.ofNat (46 : Nat)) a).length → j < (1 : Nat) → CV.str ((cutL (UInt8.ofNat (46 : Nat)) a).getD i []) = CV.str ((cutL (UInt8.ofNat (46 : Nat)) a).getD i [])) ∧ (0 : Nat) < (3 : Nat) ∧ (78 : Nat) = (78 : Nat) ∧ true = true ∧ (0 : Int) = (0 : Int) ∧ true = true ∧ (0 : Int) = (0 : Int) ∧ true = true ∧ (0 : Int) = (0 : Int) ∧ true = true ∧ (0 : Int) = (0 : Int) ∧ true = true ∧ (0 : Int) = (0 : Int) ∧ True else ∃ (x' : Nat), (x' ≤ (instT (opI a)).length ∧ (cutL (46 : UInt8) a).length = (1 : Nat) + (instT (opI a)).length ∧ (List.take x' (cutL (46 : UInt8) a).tail).all okI = true) ∧ (instT (opI a)).length - x' < (instT (opI a)).length - x_1 ∧ true = true ∧ true = true ∧ (↑x' : Int) + (1 : Int) = IntKind.i64.wrap ((↑x_1 : Int) + (1 : Int) + (1 : Int)) ∧ (0 : Nat) < (3 : Nat) ∧ some (0 : Nat) = some (0 : Nat) ∧ (0 : Nat) = (0 : Nat) ∧ (1 : Nat) < (3 : Nat) ∧ some (1 : Nat) = some (1 : Nat) ∧ true = true ∧ (↑x : Int) = (↑x : Int) ∧ (2 : Nat) < (3 : Nat) ∧ some (2 : Nat) = some (2 : Nat) ∧ (0 : Nat) = (0 : Nat) ∧ (2 : Nat) < (3 : Nat) ∧ (78 : TypeId) = (78 : TypeId) ∧ true = true ∧ (insTo (opI a) (cutL (46 : UInt8) a).tail x').op = (insTo (opI a) (cutL (46 : UInt8) a).tail x_1).op ∧ true = true ∧ (insTo (opI a) (cutL (46 : UInt8) a).tail x').a = (insTo (opI a) (cutL (46 : UInt8) a).tail x_1).a ∧ true = true ∧ (insTo (opI a) (cutL (46 : UInt8) a).tail x').b = (insTo (opI a) (cutL (46 : UInt8) a).tail x_1).b ∧ true = true ∧ (insTo (opI a) (cutL (46 : UInt8) a).tail x').c = (insTo (opI a) (cutL (46 : UInt8) a).tail x_1).c ∧ true = true ∧ (insTo (opI a) (cutL (46 : UInt8) a).tail x').n = (insTo (opI a) (cutL (46 : UInt8) a).tail x_1).n ∧ (1 : Nat) < (3 : Nat) ∧ (9 : TypeId) = (9 : TypeId) ∧ (1 : Nat) = (1 : Nat) ∧ (cutL (UInt8.ofNat (46 : Nat)) a).length = (cutL (UInt8.ofNat (46 : Nat)) a).length ∧ (∀ (i j : Nat), i < (cutL (UInt8.ofNat (46 : Nat)) a).length → j < (1 : Nat) → CV.str ((cutL (UInt8.ofNat (46 : Nat)) a).getD i []) = CV.str ((cutL (UInt8.ofNat (46 : Nat)) a).getD i [])) ∧ (0 : Nat) < (3 : Nat) ∧ (78 : Nat) = (78 : Nat) ∧ true = true ∧ (0 : Int) = (0 : Int) ∧ true = true ∧ (0 : Int) = (0 : Int) ∧ true = true ∧ (0 : Int) = (0 : Int) ∧ true = true ∧ (0 : Int) = (0 : Int) ∧ true = true ∧ (0 : Int) = (0 : Int) ∧ True else (5 : Nat) ≤ (5 : Nat) ∧ true = true ∧ true = true ∧ true = true ∧ true = true ∧ true = true ∧ (5 : Nat) ≤ (5 : Nat) ∧ true = true ∧ true = true ∧ true = true ∧ true = true ∧ true = true ∧ True ∧ true = true ∧ (insTo (opI a) (cutL (46 : UInt8) a).tail x_1).op = (insTo (opI a) (cutL (46 : UInt8) a).tail x_1).op ∧ true = true ∧ (insTo (opI a) (cutL (46 : UInt8) a).tail x_1).a = (insTo (opI a) (cutL (46 : UInt8) a).tail x_1).a ∧ true = true ∧ (insTo (opI a) (cutL (46 : UInt8) a).tail x_1).b = (insTo (opI a) (cutL (46 : UInt8) a).tail x_1).b ∧ true = true ∧ (insTo (opI a) (cutL (46 : UInt8) a).tail x_1).c = (insTo (opI a) (cutL (46 : UInt8) a).tail x_1).c ∧ true = true ∧ (insTo (opI a) (cutL (46 : UInt8) a).tail x_1).n = (insTo (opI a) (cutL (46 : UInt8) a).tail x_1).n ∧ true = true ∧ ∀ (b : Unit), True → true = true ∧ (5 : Nat) = (5 : Nat) ∧ (5 : Nat) ≤ (5 : Nat) ∧ (5 : Nat) ≤ (5 : Nat) ∧ true = true ∧ true = true ∧ true = true ∧ true = true ∧ true = true ∧ ∃ (b : Ins), (∀ (t : Ins), instOf a = some t → b = t) ∧ true = true ∧ true = true ∧ b.op = (insTo (opI a) (cutL (46 : UInt8) a).tail x_1).op ∧ true = true ∧ b.a = (insTo (opI a) (cutL (46 : UInt8) a).tail x_1).a ∧ true = true ∧ b.b = (insTo (opI a) (cutL (46 : UInt8) a).tail x_1).b ∧ true = true ∧ b.c = (insTo (opI a) (cutL (46 : UInt8) a).tail x_1).c ∧ true = true ∧ b.n = (insTo (opI a) (cutL (46 : UInt8) a).tail x_1).n ∧ (instOf a).isSome = insRight { op := (insTo (opI a) (cutL (46 : UInt8) a).tail x_1).op, a := (insTo (opI a) (cutL (46 : UInt8) a).tail x_1).a, b := (insTo (opI a) (cutL (46 : UInt8) a).tail x_1).b, c := (insTo (opI a) (cutL (46 : UInt8) a).tail x_1).c, n := (insTo (opI a) (cutL (46 : UInt8) a).tail x_1).n } ∧ True else true = true ∧ (5 : Nat) = (5 : Nat) ∧ (5 : Nat) ≤ (5 : Nat) ∧ (5 : Nat) ≤ (5 : Nat) ∧ true = true ∧ true = true ∧ true = true ∧ true = true ∧ true = true ∧ ∃ (b : Ins), (∀ (t : Ins), instOf a = some t → b = t) ∧ true = true ∧ true = true ∧ b.op = (0 : Int) ∧ true = true ∧ b.a = (0 : Int) ∧ true = true ∧ b.b = (0 : Int) ∧ true = true ∧ b.c = (0 : Int) ∧ true = true ∧ b.n = (0 : Int) ∧ (instOf a).isSome = false ∧ True) (by kernel_rfl) ?_
  try simp only [condP, eq_self, true_and, and_true, and_self, cond_or, cond_and, decide_true, decide_false, imp_self, implies_true, forall_const, exists_const, exists_prop, decide_eq_true_eq, decide_eq_false_iff_not, Bool.and_eq_true, Bool.or_eq_true, Bool.not_eq_true', Bool.not_eq_false', Bool.or_eq_false_iff, Bool.and_eq_false_imp, tdiv_u64, tmod_u64, Int.toNat_natCast, Int.toNat_zero, Int.reduceToNat, Int.reduceAdd, Int.reduceMod, Int.reduceSub, Int.reduceMul, Int.reduceNeg, Int.reduceLT, Int.reduceLE, Int.cast_ofNat_Int, Nat.reduceLT, Nat.reduceLeDiff, Nat.reduceEqDiff, Nat.reduceAdd, Nat.reduceMul, Nat.reduceSub, Nat.reducePow, Nat.le_refl, Int.le_refl, Nat.zero_add, Nat.add_zero, Nat.mul_one, Nat.zero_le, Bool.false_eq_true, Bool.true_eq_false, reduceCtorEq, not_false_eq_true, not_true_eq_false, false_implies, true_implies, Nat.lt_irrefl, Int.lt_irrefl, UInt8.reduceOfNat, UInt8.reduceToNat]
  have hp : a.length < 4294967281 := hp
  obtain ⟨w, ws, hc⟩ := cutL_cons 46 a
  have hI : opI a = opTo instL 19 w := by unfold opI; rw [hc]; rfl
  have hno := instOf_no hc
  have hyes := fun i => instOf_cons hc (i := i)
  have hl : instL.length = 19 := rfl
  have h3 := instT_len3 (opTo instL 19 w)
  have hlet := instT_lt (opTo instL 19 w)
  have hn : instOf a = none → ∀ b : Ins, (∀ t, instOf a = some t → b = t) ∧ (instOf a).isSome = false := fun h b => (by rw [h]; exact ⟨fun t ht => (by cases ht), rfl⟩)
  have hw0 : (cutL 46 a).getD 0 [] = w := by rw [hc]; rfl
  have hws : (cutL 46 a).tail = ws := by rw [hc]; rfl
  have hle : (cutL 46 a).length = ws.length + 1 := by rw [hc]; rfl
  have hat : ∀ k : Nat, (cutL 46 a).getD (k + 1) [] = ws.getD k [] := fun k => by rw [hc]; rfl
  have hop : ∀ x : Nat, x < 19 → nameAt instL x = w → (∀ j, j < x → instL.getD j [] ≠ w) → opTo instL 19 w = x := fun x hx h hb => by
    rw [nameAt_in (by omega), Int.toNat_natCast] at h
    rw [opTo_all hl, opIx_first (by omega) h hb]
  clear hc
  simp only [hw0, hws, hle, hI, okI_def, valI_def]
  clear hw0 hws hle hI
  (repeat' (first | (apply And.intro) | (intro _))) <;> (try simp (disch := omega) only [w64, wu64, wu8, Int.toNat_natCast, toNat_add_one, toNat_one_add] at *) <;> (try (first | (with_reducible rfl) | (with_reducible assumption) | exact True.intro | omega))
  · exact ⟨0, ⟨by omega, fun j hj => absurd hj (Nat.not_lt_zero _)⟩, rfl⟩
  · rename_i x h1 h2 hw
    refine ⟨x + 1, ⟨by omega, fun j hj e => ?_⟩, by omega, by omega⟩
    by_cases hj' : j < x
    · exact h1.2 j hj' e
    · rw [show j = x by omega] at e
      exact hw (by rw [nameAt_in (by omega), Int.toNat_natCast]; exact e)
  · rename_i x h1 h2 hw hm
    have ho := hop x (by omega) hw h1.2
    have := instT_len3 x
    rw [w64 (by omega) (by omega)] at hm
    have h := hn (hno (.inr (.inl (by rw [ho]; omega)))) ins0
    exact ⟨_, h.1, rfl, rfl, rfl, rfl, rfl, h.2⟩
  · rename_i x h1 h2 hw hm
    have ho := hop x (by omega) hw h1.2
    have := instT_len3 x
    rw [w64 (by omega) (by omega)] at hm
    exact ⟨0, ⟨Nat.zero_le _, by rw [ho]; omega, rfl⟩, by omega, ho, rfl, rfl, rfl, rfl⟩
  · rename_i x h1 h2 hw hm k h5 h6 h7
    have hk : k < ws.length := by omega
    rw [hat k] at h7
    have h := hn (hno (.inr (.inr (.inl (all_not [] hk h7))))) ins0
    exact ⟨_, h.1, rfl, rfl, rfl, rfl, rfl, h.2⟩
  · rename_i x h1 h2 hw hm k h5 h6 h7
    have ho := hop x (by omega) hw h1.2
    rw [← ho]
    omega
  · rename_i x h1 h2 hw hm k h5 h6 h7 h8 _ _ _
    have ho := hop x (by omega) hw h1.2
    have hk : k < ws.length := by omega
    rw [hat k] at h7 ⊢
    rw [show ((k : Int) + 1 - 1).toNat = k by omega, ← ho] at h8
    have h8 : (instT (opTo instL 19 w)).getD k 0 = 65 := toNat_eq h8
    have hv := valI_le (ws.getD k [])
    exact ⟨k + 1, ⟨by omega, h5.2.1, by rw [take_all_succ [] hk h5.2.2]; exact h7⟩, by omega, by omega, by rw [insTo_65 h8], by rw [insTo_65 h8]; exact (w64 (n := valI (ws.getD k [])) (by omega) (by omega)).symm, by rw [insTo_65 h8], by rw [insTo_65 h8], by rw [insTo_65 h8]⟩
  · rename_i x h1 h2 hw hm k h5 h6 h7 _ h8 _ _
    have ho := hop x (by omega) hw h1.2
    have hk : k < ws.length := by omega
    rw [hat k] at h7 ⊢
    rw [show ((k : Int) + 1 - 1).toNat = k by omega, ← ho] at h8
    have h8 : (instT (opTo instL 19 w)).getD k 0 = 66 := toNat_eq h8
    have hv := valI_le (ws.getD k [])
    exact ⟨k + 1, ⟨by omega, h5.2.1, by rw [take_all_succ [] hk h5.2.2]; exact h7⟩, by omega, by omega, by rw [insTo_66 h8], by rw [insTo_66 h8], by rw [insTo_66 h8]; exact (w64 (n := valI (ws.getD k [])) (by omega) (by omega)).symm, by rw [insTo_66 h8], by rw [insTo_66 h8]⟩
  · rename_i x h1 h2 hw hm k h5 h6 h7 _ _ h8 _
    have ho := hop x (by omega) hw h1.2
    have hk : k < ws.length := by omega
    rw [hat k] at h7 ⊢
    rw [show ((k : Int) + 1 - 1).toNat = k by omega, ← ho] at h8
    have h8 : (instT (opTo instL 19 w)).getD k 0 = 67 := toNat_eq h8
    have hv := valI_le (ws.getD k [])
    exact ⟨k + 1, ⟨by omega, h5.2.1, by rw [take_all_succ [] hk h5.2.2]; exact h7⟩, by omega, by omega, by rw [insTo_67 h8], by rw [insTo_67 h8], by rw [insTo_67 h8], by rw [insTo_67 h8]; exact (w64 (n := valI (ws.getD k [])) (by omega) (by omega)).symm, by rw [insTo_67 h8]⟩
  · rename_i x h1 h2 hw hm k h5 h6 h7 _ _ _ h8
    have ho := hop x (by omega) hw h1.2
    have hk : k < ws.length := by omega
    rw [hat k] at h7 ⊢
    rw [show ((k : Int) + 1 - 1).toNat = k by omega, ← ho] at h8
    have h8 : (instT (opTo instL 19 w)).getD k 0 = 78 := toNat_eq h8
    have hv := valI_le (ws.getD k [])
    exact ⟨k + 1, ⟨by omega, h5.2.1, by rw [take_all_succ [] hk h5.2.2]; exact h7⟩, by omega, by omega, by rw [insTo_78 h8], by rw [insTo_78 h8], by rw [insTo_78 h8], by rw [insTo_78 h8], by rw [insTo_78 h8]⟩
  · rename_i x h1 h2 hw hm k h5 h6 h7 n1 n2 n3 n4
    have ho := hop x (by omega) hw h1.2
    rw [show ((k : Int) + 1 - 1).toNat = k by omega, ← ho] at n1 n2 n3 n4
    exfalso
    rcases hlet k (by omega) with h | h | h | h
    · exact n1 (by rw [h]; rfl)
    · exact n2 (by rw [h]; rfl)
    · exact n3 (by rw [h]; rfl)
    · exact n4 (by rw [h]; rfl)
  · rename_i x h1 h2 hw hm k h5 h6
    have ho := hop x (by omega) hw h1.2
    have hk : k = (instT (opTo instL 19 w)).length := by omega
    have hw : k = ws.length := by omega
    rw [hw, List.take_length] at h5
    rw [hk]
    cases hr : insRight (insTo (opTo instL 19 w) ws (instT (opTo instL 19 w)).length) with
    | false =>
      have h := hn (hno (.inr (.inr (.inr hr)))) (insTo (opTo instL 19 w) ws (instT (opTo instL 19 w)).length)
      exact ⟨_, h.1, rfl, rfl, rfl, rfl, rfl, h.2⟩
    | true =>
      rw [ho] at hr ⊢
      have h := hyes x ho (by rw [← ho]; omega) h5.2.2 hr
      rw [h]
      exact ⟨_, fun t ht => Option.some.inj ht, rfl, rfl, rfl, rfl, rfl, rfl⟩
  · rename_i x h1 h2
    have hx : x = 19 := by omega
    subst hx
    have h := hn (hno (.inl (opTo_neg hl h1.2))) ins0
    exact ⟨_, h.1, rfl, rfl, rfl, rfl, rfl, h.2⟩
end Go.Sx.Tryd
namespace Go.Sx.Tryd
open Go Go.Sx
/-- A line whose rest is still to be read: its kind, its numbers (handle 1). -/
def lin1 (k : Int) : List CV := [.int .i64 k, .osl 1, .int .u64 0, .int .i64 0, .int .i64 0, .int .i64 0, .int .i64 0, .int .i64 0, .int .i64 0, .nils, .nils]
def callSpec : Spec := {
  α := Int × List (List UInt8)
  args a := [.c (.ref 0 0), .c (.ro 1 a.2.length (strF a.2))]
  ins a := [(0, .cells 44 (lin1 a.1))]
  m := 2
  pre a := a.2.length < 4294967281
  β := Cal
  post a b := ∀ t, callOf a.2 = some t → b = t
  res a _ := .r (.c (.bool (callOf a.2).isSome))
  outs a b := [(0, .cells 44 [.int .i64 a.1, .osl 1, .int .u64 0, .int .i64 b.op, .int .i64 b.a, .int .i64 b.b, .int .i64 b.c, .int .i64 b.d, .int .i64 0, .nils, .nils])]
  fresh := 0 }
theorem callOf_cons {w : List UInt8} {ws : List (List UInt8)} {i : Nat} (h : opTo callL 20 w = i) (h2 : ws.length = (callT i).length) (h3 : ws.all okW = true) (h4 : calRight (calTo i ws (callT i).length) = true) : callOf (w :: ws) = some (calTo i ws (callT i).length) := by
  unfold callOf
  rw [opTo_all (n := 20) rfl] at h
  simp only
  split at h
  · rename_i j e
    rw [e]
    have : j = i := by omega
    subst this
    exact if_pos ⟨h2, h3, h4⟩
  · omega
theorem callOf_no {w : List UInt8} {ws : List (List UInt8)} (h : opTo callL 20 w < 0 ∨ ¬ ws.length = (callT (opTo callL 20 w)).length ∨ ws.all okW = false ∨ calRight (calTo (opTo callL 20 w) ws (callT (opTo callL 20 w)).length) = false) : callOf (w :: ws) = none := by
  unfold callOf
  rw [opTo_all (n := 20) rfl] at h
  simp only
  split
  · rfl
  · rename_i j e
    rw [e] at h
    simp only at h
    refine if_neg ?_
    rintro ⟨h1, h2, h3⟩
    rcases h with h | h | h | h
    · omega
    · omega
    · rw [h2] at h; cases h
    · rw [h3] at h; cases h
end Go.Sx.Tryd
namespace Go.Sx.Tryd
open Go Go.Sx
def rcallSpec : Spec := {
  α := List (List UInt8)
  args a := [.c (.ro 1 a.length (strF a))]
  ins _ := []
  m := 0
  pre a := a.length < 4294967281
  β := Cal
  post a b := ∀ t, callOf a = some t → b = t
  res a b := .tup [.agg (calC b), .c (.bool (callOf a).isSome)]
  outs _ _ := []
  fresh := 0 }
end Go.Sx.Tryd
namespace Go.Sx.Tryd
open Go Go.Sx
theorem secOf_yes {s : List UInt8} (h : (cutL 46 s).all okW = true) (hl : (cutL 46 s).length = 3) : secOf s = some ⟨(numsL (cutL 46 s)).getD 0 0, (numsL (cutL 46 s)).getD 1 0, (numsL (cutL 46 s)).getD 2 0⟩ := by
  have hn : numsL (cutL 46 s) = (cutL 46 s).map valW := by unfold numsL; rw [if_pos h]
  rw [hn]
  unfold secOf
  match hc : cutL 46 s, hl with
  | [x, y, z], _ =>
    rw [hc] at h
    simp only [List.all_cons, List.all_nil, Bool.and_true, Bool.and_eq_true] at h
    simp only
    rw [if_pos (by simp only [Bool.and_eq_true]; exact ⟨⟨h.1, h.2.1⟩, h.2.2⟩)]
    rfl
theorem secOf_none {s : List UInt8} (h : (cutL 46 s).all okW = false ∨ ¬ (cutL 46 s).length = 3) : secOf s = none := by
  unfold secOf
  split
  · rename_i x y z hc
    rw [if_neg]
    intro hh
    rw [hc] at h
    simp only [Bool.and_eq_true] at hh
    rcases h with h | h
    · simp [hh.1.1, hh.1.2, hh.2] at h
    · exact h rfl
  · rfl
theorem taskOf_cons {a p x y z q : List UInt8} {ps : List (List UInt8)} (hc : cutL 58 a = p :: ps) (hh : cutL 47 p = [x, y, z, q]) : taskOf a = if okW x && okW y && okW z && decide (0 ≤ polOf q) && ps.all (fun w => (secOf w).isSome) then some ⟨valW x, valW y, valW z, ps.map (fun w => (secOf w).getD sec0), polOf q⟩ else none := by
  unfold taskOf
  rw [hc]
  simp only [List.headD_cons, hh, List.tail_cons]
  rfl
theorem taskOf_short {a p : List UInt8} {ps : List (List UInt8)} (hc : cutL 58 a = p :: ps) (hh : ¬ (cutL 47 p).length = 4) : taskOf a = none := by
  unfold taskOf
  rw [hc]
  simp only [List.headD_cons]
  split
  · rename_i e; rw [e] at hh; exact absurd rfl hh
  · rfl
end Go.Sx.Tryd
namespace Go.Sx.Tryd
open Go Go.Sx Go.Proofs
variable {mx : Int}
set_option linter.unusedSimpArgs false
set_option maxRecDepth 20000
set_option maxHeartbeats 4000000
def opC (l : List (List UInt8)) : Int := opTo callL 20 (l.getD 0 [])
def callInv (a : Int × List (List UInt8)) : Nat → Option Inv := fun id =>
  bif id == 5 then some { α := Nat, keep := [0, 1, 5], drop := [2], env := fun _ x => [(6, .r (.c (.int .i64 x)))], chunks := fun _ x => [(2, .cells 40 [.int .i64 (opTo callL x (a.2.getD 0 [])), .int .i64 0, .int .i64 0, .int .i64 0, .int .i64 0])], fresh := 0, pre := fun x => x ≤ 20, μ := fun x => 20 - x } else
  bif id == 15 then some { α := Nat, keep := [0, 1, 5, 7, 41], drop := [2, 3], env := fun _ _ => [], chunks := fun _ x => [(2, .cells 40 (calC (calTo (opC a.2) a.2.tail x))), (3, .iter (callT (opC a.2)) x)], fresh := 0, pre := fun x => x ≤ (callT (opC a.2)).length ∧ a.2.length = 1 + (callT (opC a.2)).length ∧ (a.2.tail.take x).all okW = true, μ := fun x => (callT (opC a.2)).length - x } else none
theorem readCall_does : Does Tryd.prog (glS mx) 85 (callSpec) := by
  refine Does.of (fn := Tryd.f85) Tryd.func85 rfl ttok (spec := lookS [(75, nameI callL), (76, fnI callT), (60, smallI), (55, calRSpec)]) ((((Known.nil.cons callee55 calRight_does).cons callee60 smallI_does).cons callee76 callPartsI_does).cons callee75 callNameI_does) (pc := fun _ => true) ((((PureOk.nil.cons (s := calRSpec) (k := 55) (fun _ _ => rfl)).cons (s := smallI) (k := 60) (fun _ _ => rfl)).cons (s := fnI callT) (k := 76) (fun _ _ => rfl)).cons (s := nameI callL) (k := 75) (fun _ _ => rfl)) mixed (callSpec) (fun a id _ => callInv a id) (ord85) 3000 (rs := [.tmp 4]) rfl (n := 80) rfl (by decide) (by kernel_rfl) ?_
  intro (a : Int × List (List UInt8)) hp
  refine ⟨of_decide_eq_true (by kernel_rfl), ?_⟩
  refine vc_of (Q := bif decide ((↑a.snd.length : Int) = (0 : Int)) then ∃ (b : Cal), (∀ (t : Cal), callOf a.snd = some t → b = t) ∧ true = true ∧ (callOf a.snd).isSome = false ∧ (0 : Nat) < (2 : Nat) ∧ (44 : TypeId) = (44 : TypeId) ∧ true = true ∧ a.fst = a.fst ∧ (1 : Nat) < (2 : Nat) ∧ some (1 : Nat) = some (1 : Nat) ∧ true = true ∧ (0 : Int) = (0 : Int) ∧ true = true ∧ b.op = (0 : Int) ∧ true = true ∧ b.a = (0 : Int) ∧ true = true ∧ b.b = (0 : Int) ∧ true = true ∧ b.c = (0 : Int) ∧ true = true ∧ b.d = (0 : Int) ∧ true = true ∧ (0 : Int) = (0 : Int) ∧ True else true = true ∧ (5 : Nat) = (5 : Nat) ∧ (5 : Nat) ≤ (5 : Nat) ∧ (∃ (x : Nat), x ≤ (20 : Nat) ∧ true = true ∧ true = true ∧ (↑x : Int) = (0 : Int) ∧ (0 : Nat) < (3 : Nat) ∧ some (0 : Nat) = some (0 : Nat) ∧ (0 : Nat) = (0 : Nat) ∧ (1 : Nat) = (1 : Nat) ∧ a.snd.length = a.snd.length ∧ (∀ (i j : Nat), i < a.snd.length → j < (1 : Nat) → CV.str (a.snd.getD i []) = CV.str (a.snd.getD i [])) ∧ (2 : Nat) < (3 : Nat) ∧ some (2 : Nat) = some (2 : Nat) ∧ (0 : Nat) = (0 : Nat) ∧ (2 : Nat) < (3 : Nat) ∧ (40 : TypeId) = (40 : Nat) ∧ true = true ∧ opTo callL x (a.snd.getD (0 : Nat) []) = (-1 : Int) ∧ true = true ∧ (0 : Int) = (0 : Int) ∧ true = true ∧ (0 : Int) = (0 : Int) ∧ true = true ∧ (0 : Int) = (0 : Int) ∧ true = true ∧ (0 : Int) = (0 : Int) ∧ (0 : Nat) < (3 : Nat) ∧ (44 : TypeId) = (44 : TypeId) ∧ true = true ∧ a.fst = a.fst ∧ (1 : Nat) < (3 : Nat) ∧ some (1 : Nat) = some (1 : Nat) ∧ true = true ∧ (0 : Int) = (0 : Int) ∧ true = true ∧ (0 : Int) = (0 : Int) ∧ true = true ∧ (0 : Int) = (0 : Int) ∧ true = true ∧ (0 : Int) = (0 : Int) ∧ true = true ∧ (0 : Int) = (0 : Int) ∧ true = true ∧ (0 : Int) = (0 : Int) ∧ true = true ∧ (0 : Int) = (0 : Int) ∧ True) ∧ ∀ (x : Nat), x ≤ (20 : Nat) → bif decide ((↑x : Int) ≤ (19 : Int)) then ((0 : Int) ≤ (0 : Int) ∧ (0 : Int) < (↑a.snd.length : Int)) ∧ (0 : Nat) < a.snd.length ∧ (1 : Nat) ≤ (1 : Nat) ∧ true = true ∧ True ∧ true = true ∧ (↑x : Int) = (↑x : Int) ∧ true = true ∧ ∀ (b : Unit), True → bif decide (nameAt callL (↑x : Int) = a.snd.getD (0 : Nat) []) then true = true ∧ (1 : Nat) = (1 : Nat) ∧ (1 : Nat) ≤ (5 : Nat) ∧ ∃ (x' : Nat), x' ≤ (20 : Nat) ∧ (20 : Nat) - x' < (20 : Nat) - x ∧ true = true ∧ true = true ∧ (↑x' : Int) = IntKind.i64.wrap ((↑x : Int) + (1 : Int)) ∧ (0 : Nat) < (3 : Nat) ∧ some (0 : Nat) = some (0 : Nat) ∧ (0 : Nat) = (0 : Nat) ∧ (1 : Nat) = (1 : Nat) ∧ a.snd.length = a.snd.length ∧ (∀ (i j : Nat), i < a.snd.length → j < (1 : Nat) → CV.str (a.snd.getD i []) = CV.str (a.snd.getD i [])) ∧ (2 : Nat) < (3 : Nat) ∧ some (2 : Nat) = some (2 : Nat) ∧ (0 : Nat) = (0 : Nat) ∧ (2 : Nat) < (3 : Nat) ∧ (40 : TypeId) = (40 : TypeId) ∧ true = true ∧ opTo callL x' (a.snd.getD (0 : Nat) []) = (↑x : Int) ∧ true = true ∧ (0 : Int) = (0 : Int) ∧ true = true ∧ (0 : Int) = (0 : Int) ∧ true = true ∧ (0 : Int) = (0 : Int) ∧ true = true ∧ (0 : Int) = (0 : Int) ∧ (0 : Nat) < (3 : Nat) ∧ (44 : TypeId) = (44 : TypeId) ∧ true = true ∧ a.fst = a.fst ∧ (1 : Nat) < (3 : Nat) ∧ some (1 : Nat) = some (1 : Nat) ∧ true = true ∧ (0 : Int) = (0 : Int) ∧ true = true ∧ (0 : Int) = (0 : Int) ∧ true = true ∧ (0 : Int) = (0 : Int) ∧ true = true ∧ (0 : Int) = (0 : Int) ∧ true = true ∧ (0 : Int) = (0 : Int) ∧ true = true ∧ (0 : Int) = (0 : Int) ∧ true = true ∧ (0 : Int) = (0 : Int) ∧ True else ∃ (x' : Nat), x' ≤ (20 : Nat) ∧ (20 : Nat) - x' < (20 : Nat) - x ∧ true = true ∧ true = true ∧ (↑x' : Int) = IntKind.i64.wrap ((↑x : Int) + (1 : Int)) ∧ (0 : Nat) < (3 : Nat) ∧ some (0 : Nat) = some (0 : Nat) ∧ (0 : Nat) = (0 : Nat) ∧ (1 : Nat) = (1 : Nat) ∧ a.snd.length = a.snd.length ∧ (∀ (i j : Nat), i < a.snd.length → j < (1 : Nat) → CV.str (a.snd.getD i []) = CV.str (a.snd.getD i [])) ∧ (2 : Nat) < (3 : Nat) ∧ some (2 : Nat) = some (2 : Nat) ∧ (0 : Nat) = (0 : Nat) ∧ (2 : Nat) < (3 : Nat) ∧ (40 : TypeId) = (40 : TypeId) ∧ true = true ∧ opTo callL x' (a.snd.getD (0 : Nat) []) = opTo callL x (a.snd.getD (0 : Nat) []) ∧ true = true ∧ (0 : Int) = (0 : Int) ∧ true = true ∧ (0 : Int) = (0 : Int) ∧ true = true ∧ (0 : Int) = (0 : Int) ∧ true = true ∧ (0 : Int) = (0 : Int) ∧ (0 : Nat) < (3 : Nat) ∧ (44 : TypeId) = (44 : TypeId) ∧ true = true ∧ a.fst = a.fst ∧ (1 : Nat) < (3 : Nat) ∧ some (1 : Nat) = some (1 : Nat) ∧ true = true ∧ (0 : Int) = (0 : Int) ∧ true = true ∧ (0 : Int) = (0 : Int) ∧ true = true ∧ (0 : Int) = (0 : Int) ∧ true = true ∧ (0 : Int) = (0 : Int) ∧ true = true ∧ (0 : Int) = (0 : Int) ∧ true = true ∧ (0 : Int) = (0 : Int) ∧ true = true ∧ (0 : Int) = (0 : Int) ∧ True else (1 : Nat) ≤ (5 : Nat) ∧ true = true ∧ bif decide (opTo callL x (a.snd.getD (0 : Nat) []) < (0 : Int)) then ∃ (b : Cal), (∀ (t : Cal), callOf a.snd = some t → b = t) ∧ true = true ∧ (callOf a.snd).isSome = false ∧ (0 : Nat) < (2 : Nat) ∧ (44 : TypeId) = (44 : TypeId) ∧ true = true ∧ a.fst = a.fst ∧ (1 : Nat) < (2 : Nat) ∧ some (1 : Nat) = some (1 : Nat) ∧ true = true ∧ (0 : Int) = (0 : Int) ∧ true = true ∧ b.op = (0 : Int) ∧ true = true ∧ b.a = (0 : Int) ∧ true = true ∧ b.b = (0 : Int) ∧ true = true ∧ b.c = (0 : Int) ∧ true = true ∧ b.d = (0 : Int) ∧ true = true ∧ (0 : Int) = (0 : Int) ∧ True else (1 : Nat) ≤ (5 : Nat) ∧ true = true ∧ True ∧ true = true ∧ opTo callL x (a.snd.getD (0 : Nat) []) = opTo callL x (a.snd.getD (0 : Nat) []) ∧ true = true ∧ ∀ (b : Unit), True → bif !decide ((↑a.snd.length : Int) = IntKind.i64.wrap ((1 : Int) + (↑(callT (opTo callL x (a.snd.getD (0 : Nat) []))).length : Int))) then ∃ (b : Cal), (∀ (t : Cal), callOf a.snd = some t → b = t) ∧ true = true ∧ (callOf a.snd).isSome = false ∧ (0 : Nat) < (2 : Nat) ∧ (44 : TypeId) = (44 : TypeId) ∧ true = true ∧ a.fst = a.fst ∧ (1 : Nat) < (2 : Nat) ∧ some (1 : Nat) = some (1 : Nat) ∧ true = true ∧ (0 : Int) = (0 : Int) ∧ true = true ∧ b.op = (0 : Int) ∧ true = true ∧ b.a = (0 : Int) ∧ true = true ∧ b.b = (0 : Int) ∧ true = true ∧ b.c = (0 : Int) ∧ true = true ∧ b.d = (0 : Int) ∧ true = true ∧ (0 : Int) = (0 : Int) ∧ True else (∃ (x_1 : Nat), (x_1 ≤ (callT (opC a.snd)).length ∧ a.snd.length = (1 : Nat) + (callT (opC a.snd)).length ∧ (List.take x_1 a.snd.tail).all okW = true) ∧ true = true ∧ (0 : Nat) < (4 : Nat) ∧ some (0 : Nat) = some (0 : Nat) ∧ (0 : Nat) = (0 : Nat) ∧ (1 : Nat) = (1 : Nat) ∧ a.snd.length = a.snd.length ∧ (∀ (i j : Nat), i < a.snd.length → j < (1 : Nat) → CV.str (a.snd.getD i []) = CV.str (a.snd.getD i [])) ∧ (2 : Nat) < (4 : Nat) ∧ some (2 : Nat) = some (2 : Nat) ∧ (0 : Nat) = (0 : Nat) ∧ callT (opTo callL x (a.snd.getD (0 : Nat) [])) = callT (opTo callL x (a.snd.getD (0 : Nat) [])) ∧ (3 : Nat) < (4 : Nat) ∧ some (3 : Nat) = some (3 : Nat) ∧ (0 : Nat) = (0 : Nat) ∧ (2 : Nat) < (4 : Nat) ∧ (40 : TypeId) = (40 : TypeId) ∧ true = true ∧ (calTo (opC a.snd) a.snd.tail x_1).op = opTo callL x (a.snd.getD (0 : Nat) []) ∧ true = true ∧ (calTo (opC a.snd) a.snd.tail x_1).a = (0 : Int) ∧ true = true ∧ (calTo (opC a.snd) a.snd.tail x_1).b = (0 : Int) ∧ true = true ∧ (calTo (opC a.snd) a.snd.tail x_1).c = (0 : Int) ∧ true = true ∧ (calTo (opC a.snd) a.snd.tail x_1).d = (0 : Int) ∧ (3 : Nat) < (4 : Nat) ∧ callT (opC a.snd) = callT (opTo callL x (a.snd.getD (0 : Nat) [])) ∧ x_1 = (0 : Nat) ∧ (0 : Nat) < (4 : Nat) ∧ (44 : TypeId) = (44 : TypeId) ∧ true = true ∧ a.fst = a.fst ∧ (1 : Nat) < (4 : Nat) ∧ some (1 : Nat) = some (1 : Nat) ∧ true = true ∧ (0 : Int) = (0 : Int) ∧ true = true ∧ (0 : Int) = (0 : Int) ∧ true = true ∧ (0 : Int) = (0 : Int) ∧ true = true ∧ (0 : Int) = (0 : Int) ∧ true = true ∧ (0 : Int) = (0 : Int) ∧ true = true ∧ (0 : Int) = (0 : Int) ∧ true = true ∧ (0 : Int) = (0 : Int) ∧ True) ∧ ∀ (x_1 : Nat), x_1 ≤ (callT (opC a.snd)).length ∧ a.snd.length = (1 : Nat) + (callT (opC a.snd)).length ∧ (List.take x_1 a.snd.tail).all okW = true → (x_1 < (callT (opC a.snd)).length → ((callT (opC a.snd)).getD x_1 (0 : UInt8)).toNat < (128 : Nat)) ∧ bif decide (x_1 < (callT (opC a.snd)).length) then decide (x_1 < (callT (opC a.snd)).length) = true ∧ decide (x_1 < (callT (opC a.snd)).length) = true ∧ ((0 : Int) ≤ IntKind.i64.wrap ((1 : Int) + (↑x_1 : Int)) ∧ IntKind.i64.wrap ((1 : Int) + (↑x_1 : Int)) < (↑a.snd.length : Int)) ∧ (IntKind.i64.wrap ((1 : Int) + (↑x_1 : Int))).toNat < a.snd.length ∧ (1 : Nat) ≤ (1 : Nat) ∧ true = true ∧ True ∧ a.snd.getD (IntKind.i64.wrap ((1 : Int) + (↑x_1 : Int))).toNat [] = a.snd.getD (IntKind.i64.wrap ((1 : Int) + (↑x_1 : Int))).toNat [] ∧ true = true ∧ ∀ (b : Unit), True → bif !(numAns (a.snd.getD (IntKind.i64.wrap ((1 : Int) + (↑x_1 : Int))).toNat []) (1099511627776 : Int)).snd then ∃ (b : Cal), (∀ (t : Cal), callOf a.snd = some t → b = t) ∧ true = true ∧ (callOf a.snd).isSome = false ∧ (0 : Nat) < (2 : Nat) ∧ (44 : TypeId) = (44 : TypeId) ∧ true = true ∧ a.fst = a.fst ∧ (1 : Nat) < (2 : Nat) ∧ some (1 : Nat) = some (1 : Nat) ∧ true = true ∧ (0 : Int) = (0 : Int) ∧ true = true ∧ b.op = (0 : Int) ∧ true = true ∧ b.a = (0 : Int) ∧ true = true ∧ b.b = (0 : Int) ∧ true = true ∧ b.c = (0 : Int) ∧ true = true ∧ b.d = (0 : Int) ∧ true = true ∧ (0 : Int) = (0 : Int) ∧ True else bif decide ((↑((callT (opC a.snd)).getD x_1 (0 : UInt8)).toNat : Int) = (65 : Int)) then true = true ∧ (1 : Nat) = (1 : Nat) ∧ (2 : Nat) ≤ (5 : Nat) ∧ ∃ (x' : Nat), (x' ≤ (callT (opC a.snd)).length ∧ a.snd.length = (1 : Nat) + (callT (opC a.snd)).length ∧ (List.take x' a.snd.tail).all okW = true) ∧ (callT (opC a.snd)).length - x' < (callT (opC a.snd)).length - x_1 ∧ true = true ∧ (0 : Nat) < (4 : Nat) ∧ some (0 : Nat) = some (0 : Nat) ∧ (0 : Nat) = (0 : Nat) ∧ (1 : Nat) = (1 : Nat) ∧ a.snd.length = a.snd.length ∧ (∀ (i j : Nat), i < a.snd.length → j < (1 : Nat) → CV.str (a.snd.getD i []) = CV.str (a.snd.getD i [])) ∧ (2 : Nat) < (4 : Nat) ∧ some (2 : Nat) = some (2 : Nat) ∧ (0 : Nat) = (0 : Nat) ∧ callT (opTo callL x (a.snd.getD (0 : Nat) [])) = callT (opTo callL x (a.snd.getD (0 : Nat) [])) ∧ (3 : Nat) < (4 : Nat) ∧ some (3 : Nat) = some (3 : Nat) ∧ (0 : Nat) = (0 : Nat) ∧ (2 : Nat) < (4 : Nat) ∧ (40 : TypeId) = (40 : TypeId) ∧ true = true ∧ (calTo (opC a.snd) a.snd.tail x').op = (calTo (opC a.snd) a.snd.tail x_1).op ∧ true = true ∧ (calTo (opC a.snd) a.snd.tail x').a = (numAns (a.snd.getD (IntKind.i64.wrap ((1 : Int) + (↑x_1 : Int))).toNat []) (1099511627776 : Int)).fst ∧ true = true ∧ (calTo (opC a.snd) a.snd.tail x').b = (calTo (opC a.snd) a.snd.tail x_1).b ∧ true = true ∧ (calTo (opC a.snd) a.snd.tail x').c = (calTo (opC a.snd) a.snd.tail x_1).c ∧ true = true ∧ (calTo (opC a.snd) a.snd.tail x').d = (calTo (opC a.snd) a.snd.tail x_1).d ∧ (3 : Nat) < (4 : Nat) ∧ callT (opC a.snd) = callT (opC a.snd) ∧ (x' = if x_1 < (callT (opC a.snd)).length then x_1 + (1 : Nat) else x_1) ∧ (0 : Nat) < (4 : Nat) ∧ (44 : TypeId) = (44 : TypeId) ∧ true = true ∧ a.fst = a.fst ∧ (1 : Nat) < (4 : Nat) ∧ some (1 : Nat) = some (1 : Nat) ∧ true = true ∧ (0 : Int) = (0 : Int) ∧ true = true ∧ (0 : Int) = (0 : Int) ∧ true = true ∧ (0 : Int) = (0 : Int) ∧ true = true ∧ (0 : Int) = (0 : Int) ∧ true = true ∧ (0 : Int) = (0 : Int) ∧ true = true ∧ (0 : Int) = (0 : Int) ∧ true = true ∧ (0 : Int) = (0 : Int) ∧ True else bif decide ((↑((callT (opC a.snd)).getD x_1 (0 : UInt8)).toNat : Int) = (66 : Int)) then true = true ∧ (1 : Nat) = (1 : Nat) ∧ (3 : Nat) ≤ (5 : Nat) ∧ ∃ (x' : Nat), (x' ≤ (callT (opC a.snd)).length ∧ a.snd.length = (1 : Nat) + (callT (opC a.snd)).length ∧ (List.take x' a.snd.tail).all okW = true) ∧ (callT (opC a.snd)).length - x' < (callT (opC a.snd)).length - x_1 ∧ true = true ∧ (0 : Nat) < (4 : Nat) ∧ some (0 : Nat) = some (0 : Nat) ∧ (0 : Nat) = (0 : Nat) ∧ (1 : Nat) = (1 : Nat) ∧ a.snd.length = a.snd.length ∧ (∀ (i j : Nat), i < a.snd.length → j < (1 : Nat) → CV.str (a.snd.getD i []) = CV.str (a.snd.getD i [])) ∧ (2 : Nat) < (4 : Nat) ∧ some (2 : Nat) = some (2 : Nat) ∧ (0 : Nat) = (0 : Nat) ∧ callT (opTo callL x (a.snd.getD (0 : Nat) [])) = callT (opTo callL x (a.snd.getD (0 : Nat) [])) ∧ (3 : Nat) < (4 : Nat) ∧ some (3 : Nat) = some (3 : Nat) ∧ (0 : Nat) = (0 : Nat) ∧ (2 : Nat) < (4 : Nat) ∧ (40 : TypeId) = (40 : TypeId) ∧ true = true ∧ (calTo (opC a.snd) a.snd.tail x').op = (calTo (opC a.snd) a.snd.tail x_1).op ∧ true = true ∧ (calTo (opC a.snd) a.snd.tail x').a = (calTo (opC a.snd) a.snd.tail x_1).a ∧ true = true ∧ (calTo (opC a.snd) a.snd.tail x').b = (numAns (a.snd.getD (IntKind.i64.wrap ((1 : Int) + (↑x_1 : Int))).toNat []) (1099511627776 : Int)).fst ∧ true = true ∧ (calTo (opC a.snd) a.snd.tail x').c = (calTo (opC a.snd) a.snd.tail x_1).c ∧ true = true ∧ (calTo (opC a.snd) a.snd.tail x').d = (calTo (opC a.snd) a.snd.tail x_1).d ∧ (3 : Nat) < (4 : Nat) ∧ callT (opC a.snd) = callT (opC a.snd) ∧ (x' = if x_1 < (callT (opC a.snd)).length then x_1 + (1 : Nat) else x_1) ∧ (0 : Nat) < (4 : Nat) ∧ (44 : TypeId) = (44 : TypeId) ∧ true = true ∧ a.fst = a.fst ∧ (1 : Nat) < (4 : Nat) ∧ some (1 : Nat) = some (1 : Nat) ∧ true = true ∧ (0 : Int) = (0 : Int) ∧ true = true ∧ (0 : Int) = (0 : Int) ∧ true = true ∧ (0 : Int) = (0 : Int) ∧ true = true ∧ (0 : Int) = (0 : Int) ∧ true = true ∧ (0 : Int) = (0 : Int) ∧ true = true ∧ (0 : Int) = (0 : Int) ∧ true = true ∧ (0 : Int) = (0 : Int) ∧ True else bif decide ((↑((callT (opC a.snd)).getD x_1 (0 : UInt8)).toNat : Int) = (67 : Int)) then true = true ∧ (1 : Nat) = (1 : Nat) ∧ (4 : Nat) ≤ (5 : Nat) ∧ ∃ (x' : Nat), (x' ≤ (callT (opC a.snd)).length ∧ a.snd.length = (1 : Nat) + (callT (opC a.snd)).length ∧ (List.take x' a.snd.tail).all okW = true) ∧ (callT (opC a.snd)).length - x' < (callT (opC a.snd)).length - x_1 ∧ true = true ∧ (0 : Nat) < (4 : Nat) ∧ some (0 : Nat) = some (0 : Nat) ∧ (0 : Nat) = (0 : Nat) ∧ (1 : Nat) = (1 : Nat) ∧ a.snd.length = a.snd.length ∧ (∀ (i j : Nat), i < a.snd.length → j < (1 : Nat) → CV.str (a.snd.getD i []) = CV.str (a.snd.getD i [])) ∧ (2 : Nat) < (4 : Nat) ∧ some (2 : Nat) = some (2 : Nat) ∧ (0 : Nat) = (0 : Nat) ∧ callT (opTo callL x (a.snd.getD (0 : Nat) [])) = callT (opTo callL x (a.snd.getD (0 : Nat) [])) ∧ (3 : Nat) < (4 : Nat) ∧ some (3 : Nat) = some (3 : Nat) ∧ (0 : Nat) = (0 : Nat) ∧ (2 : Nat) < (4 : Nat) ∧ (40 : TypeId) = (40 : TypeId) ∧ true = true ∧ (calTo (opC a.snd) a.snd.tail x').op = (calTo (opC a.snd) a.snd.tail x_1).op ∧ true = true ∧ (calTo (opC a.snd) a.snd.tail x').a = (calTo (opC a.snd) a.snd.tail x_1).a ∧ true = true ∧ (calTo (opC a.snd) a.snd.tail x').b = (calTo (opC a.snd) a.snd.tail x_1).b ∧ true = true ∧ (calTo (opC a.snd) a.snd.tail x').c = (numAns (a.snd.getD (IntKind.i64.wrap ((1 : Int) + (↑x_1 : Int))).toNat []) (1099511627776 : Int)).fst ∧ true = true ∧ (calTo (opC a.snd) a.snd.tail x').d = (calTo (opC a.snd) a.snd.tail x_1).d ∧ (3 : Nat) < (4 : Nat) ∧ callT (opC a.snd) = callT (opC a.snd) ∧ (x' = if x_1 < (callT (opC a.snd)).length then x_1 + (1 : Nat) else x_1) ∧ (0 : Nat) < (4 : Nat) ∧ (44 : TypeId) = (44 : TypeId) ∧ true = true ∧ a.fst = a.fst ∧ (1 : Nat) < (4 : Nat) ∧ some (1 : Nat) = some (1 : Nat) ∧ true = true ∧ (0 : Int) = (0 : Int) ∧ true = true ∧ (0 : Int) = (0 : Int) ∧ true = true ∧ (0 : Int) = (0 : Int) ∧ true = true ∧ (0 : Int) = (0 : Int) ∧ true = true ∧ (0 : Int) = (0 : Int) ∧ true = true ∧ (0 : Int) = (0 : Int) ∧ true = true ∧ (0 : Int) = (0 : Int) ∧ True else bif decide ((↑((callT (opC a.snd)).getD x_1 (0 : UInt8)).toNat : Int) = (68 : Int)) then true = true ∧ (1 : Nat) = (1 : Nat) ∧ (5 : Nat) ≤ (5 : Nat) ∧ ∃ (x' : Nat), (x' ≤ (callT (opC a.snd)).length ∧ a.snd.length = (1 : Nat) + (callT (opC a.snd)).length ∧ (List.take x' a.snd.tail).all okW = true) ∧ (callT (opC a.snd)).length - x' < (callT (opC a.snd)).length - x_1 ∧ true = true ∧ (0 : Nat) < (4 : Nat) ∧ some (0 : Nat) = some (0 : Nat) ∧ (0 : Nat) = (0 : Nat) ∧ (1 : Nat) = (1 : Nat) ∧ a.snd.length = a.snd.length ∧ (∀ (i j : Nat), i < a.snd.length → j < (1 : Nat) → CV.str (a.snd.getD i []) = CV.str (a.snd.getD i [])) ∧ (2 : Nat) < (4 : Nat) ∧ some (2 : Nat) = some (2 : Nat) ∧ (0 : Nat) = (0 : Nat) ∧ callT (opTo callL x (a.snd.getD (0 : Nat) [])) = callT (opTo callL x (a.snd.getD (0 : Nat) [])) ∧ (3 : Nat) < (4 : Nat) ∧ some (3 : Nat) = some (3 : Nat) ∧ (0 : Nat) = (0 : Nat) ∧ (2 : Nat) < (4 : Nat) ∧ (40 : TypeId) = (40 : TypeId) ∧ true = true ∧ (calTo (opC a.snd) a.snd.tail x').op = (calTo (opC a.snd) a.snd.tail x_1).op ∧ true = true ∧ (calTo (opC a.snd) a.snd.tail x').a = (calTo (opC a.snd) a.snd.tail x_1).a ∧ true = true ∧ (calTo (opC a.snd) a.snd.tail x').b = (calTo (opC a.snd) a.snd.tail x_1).b ∧ true = true ∧ (calTo (opC a.snd) a.snd.tail x').c = (calTo (opC a.snd) a.snd.tail x_1).c ∧ true = true ∧ (calTo (opC a.snd) a.snd.tail x').d = (numAns (a.snd.getD (IntKind.i64.wrap ((1 : Int) + (↑x_1 : Int))).toNat []) (1099511627776 : Int)).fst ∧ (3 : Nat) < (4 : Nat) ∧ callT (opC a.snd) = callT (opC a.snd) ∧ (x' = if x_1 < (callT (opC a.snd)).length then x_1 + (1 : Nat) else x_1) ∧ (0 : Nat) < (4 : Nat) ∧ (44 : TypeId) = (44 : TypeId) ∧ true = true ∧ a.fst = a.fst ∧ (1 : Nat) < (4 : Nat) ∧ some (1 : Nat) = some (1 : Nat) ∧ true = true ∧ (0 : Int) = (0 : Int) ∧ true = true ∧ (0 : Int) = (0 : Int) ∧ true = true ∧ (0 : Int) = (0 : Int) ∧ true = true ∧ (0 : Int) = (0 : Int) ∧ true = true ∧ (0 : Int) = (0 : Int) ∧ true = true ∧ (0 : Int) = (0 : Int) ∧ true = true ∧ (0 : Int) = (0 : Int) ∧ True else ∃ (x' : Nat), (x' ≤ (callT (opC a.snd)).length ∧ a.snd.length = (1 : Nat) + (callT (opC a.snd)).length ∧ (List.take x' a.snd.tail).all okW = true) ∧ (callT (opC a.snd)).length - x' < (callT (opC a.snd)).length - x_1 ∧ true = true ∧ (0 : Nat) < (4 : Nat) ∧ some (0 : Nat) = some (0 : Nat) ∧ (0 : Nat) = (0 : Nat) ∧ (1 : Nat) = (1 : Nat) ∧ a.snd.length = a.snd.length ∧ (∀ (i j : Nat), i < a.snd.length → j < (1 : Nat) → CV.str (a.snd.getD i []) = CV.str (a.snd.getD i [])) ∧ (2 : Nat) < (4 : Nat) ∧ some (2 : Nat) = some (2 : Nat) ∧ (0 : Nat) = (0 : Nat) ∧ callT (opTo callL x (a.snd.getD (0 : Nat) [])) = callT (opTo callL x (a.snd.getD (0 : Nat) [])) ∧ (3 : Nat) < (4 : Nat) ∧ some (3 : Nat) = some (3 : Nat) ∧ (0 : Nat) = (0 : Nat) ∧ (2 : Nat) < (4 : Nat) ∧ (40 : TypeId) = (40 : TypeId) ∧ true = true ∧ (calTo (opC a.snd) a.snd.tail x').op = (calTo (opC a.snd) a.snd.tail x_1).op ∧ true = true ∧ (calTo (opC a.snd) a.snd.tail x').a = (calTo (opC a.snd) a.snd.tail x_1).a ∧ true = true ∧ (calTo (opC a.snd) a.snd.tail x').b = (calTo (opC a.snd) a.snd.tail x_1).b ∧ true = true ∧ (calTo (opC a.snd) a.snd.tail x').c = (calTo (opC a.snd) a.snd.tail x_1).c ∧ true = true ∧ (calTo (opC a.snd) a.snd.tail x').d = (calTo (opC a.snd) a.snd.tail x_1).d ∧ (3 : Nat) < (4 : Nat) ∧ callT (opC a.snd) = callT (opC a.snd) ∧ (x' = if x_1 < (callT (opC a.snd)).length then x_1 + (1 : Nat) else x_1) ∧ (0 : Nat) < (4 : Nat) ∧ (44 : TypeId) = (44 : TypeId) ∧ true = true ∧ a.fst = a.fst ∧ (1 : Nat) < (4 : Nat) ∧ some (1 : Nat) = some (1 : Nat) ∧ true = true ∧ (0 : Int) = (0 : Int) ∧ true = true ∧ (0 : Int) = (0 : Int) ∧ true = true ∧ (0 : Int) = (0 : Int) ∧ true = true ∧ (0 : Int) = (0 : Int) ∧ true = true ∧ (0 : Int) = (0 : Int) ∧ true = true ∧ (0 : Int) = (0 : Int) ∧ true = true ∧ (0 : Int) = (0 : Int) ∧ True else (5 : Nat) ≤ (5 : Nat) ∧ true = true ∧ true = true ∧ true = true ∧ true = true ∧ true = true ∧ true = true ∧ (5 : Nat) = (5 : Nat) ∧ (8 : Nat) ≤ (11 : Nat) ∧ (5 : Nat) ≤ (5 : Nat) ∧ true = true ∧ true = true ∧ true = true ∧ true = true ∧ true = true ∧ True ∧ true = true ∧ (calTo (opC a.snd) a.snd.tail x_1).op = (calTo (opC a.snd) a.snd.tail x_1).op ∧ true = true ∧ (calTo (opC a.snd) a.snd.tail x_1).a = (calTo (opC a.snd) a.snd.tail x_1).a ∧ true = true ∧ (calTo (opC a.snd) a.snd.tail x_1).b = (calTo (opC a.snd) a.snd.tail x_1).b ∧ true = true ∧ (calTo (opC a.snd) a.snd.tail x_1).c = (calTo (opC a.snd) a.snd.tail x_1).c ∧ true = true ∧ (calTo (opC a.snd) a.snd.tail x_1).d = (calTo (opC a.snd) a.snd.tail x_1).d ∧ true = true ∧ ∀ (b : Unit), True → ∃ (b : Cal), (∀ (t : Cal), callOf a.snd = some t → b = t) ∧ true = true ∧ (callOf a.snd).isSome = calRight { op := (calTo (opC a.snd) a.snd.tail x_1).op, a := (calTo (opC a.snd) a.snd.tail x_1).a, b := (calTo (opC a.snd) a.snd.tail x_1).b, c := (calTo (opC a.snd) a.snd.tail x_1).c, d := (calTo (opC a.snd) a.snd.tail x_1).d } ∧ (0 : Nat) < (2 : Nat) ∧ (44 : TypeId) = (44 : TypeId) ∧ true = true ∧ a.fst = a.fst ∧ (1 : Nat) < (2 : Nat) ∧ some (1 : Nat) = some (1 : Nat) ∧ true = true ∧ (0 : Int) = (0 : Int) ∧ true = true ∧ b.op = (calTo (opC a.snd) a.snd.tail x_1).op ∧ true = true ∧ b.a = (calTo (opC a.snd) a.snd.tail x_1).a ∧ true = true ∧ b.b = (calTo (opC a.snd) a.snd.tail x_1).b ∧ true = true ∧ b.c = (calTo (opC a.snd) a.snd.tail x_1).c ∧ true = true ∧ b.d = (calTo (opC a.snd) a.snd.tail x_1).d ∧ true = true ∧ (0 : Int) = (0 : Int) ∧ True) (by kernel_rfl) ?_
  try simp only [condP, eq_self, true_and, and_true, and_self, cond_or, cond_and, decide_true, decide_false, imp_self, implies_true, forall_const, exists_const, exists_prop, decide_eq_true_eq, decide_eq_false_iff_not, Bool.and_eq_true, Bool.or_eq_true, Bool.not_eq_true', Bool.not_eq_false', Bool.or_eq_false_iff, Bool.and_eq_false_imp, tdiv_u64, tmod_u64, Int.toNat_natCast, Int.toNat_zero, Int.reduceToNat, Int.reduceAdd, Int.reduceMod, Int.reduceSub, Int.reduceMul, Int.reduceNeg, Int.reduceLT, Int.reduceLE, Int.cast_ofNat_Int, Nat.reduceLT, Nat.reduceLeDiff, Nat.reduceEqDiff, Nat.reduceAdd, Nat.reduceMul, Nat.reduceSub, Nat.reducePow, Nat.le_refl, Int.le_refl, Nat.zero_add, Nat.add_zero, Nat.mul_one, Nat.zero_le, Bool.false_eq_true, Bool.true_eq_false, reduceCtorEq, not_false_eq_true, not_true_eq_false, false_implies, true_implies, Nat.lt_irrefl, Int.lt_irrefl, UInt8.reduceOfNat, UInt8.reduceToNat]
  obtain ⟨kd, l⟩ := a
  have hp : l.length < 4294967281 := hp
  match l, hp with
  | [], _ =>
    simp [callOf]
    exact ⟨cal0, rfl, rfl, rfl, rfl, rfl⟩
  | w :: ws, hp =>
  have hle : (w :: ws).length = ws.length + 1 := rfl
  rw [hle] at hp
  have hno := fun h => callOf_no (w := w) (ws := ws) h
  have hyes := fun i => callOf_cons (w := w) (ws := ws) (i := i)
  have hl : callL.length = 20 := rfl
  have h3 := callT_len4 (opTo callL 20 w)
  have hlet := callT_lt (opTo callL 20 w)
  have hI : opC (w :: ws) = opTo callL 20 w := rfl
  have hn : callOf (w :: ws) = none → ∀ b : Cal, (∀ t, callOf (w :: ws) = some t → b = t) ∧ (callOf (w :: ws)).isSome = false := fun h b => (by rw [h]; exact ⟨fun t ht => (by cases ht), rfl⟩)
  have hw0 : (w :: ws).getD 0 [] = w := rfl
  have hws : (w :: ws).tail = ws := rfl
  simp only [hw0, hws, hle, hI, okW_def, valW_def]
  generalize hL : w :: ws = L at *
  have hat : ∀ k : Nat, L.getD (k + 1) [] = ws.getD k [] := fun k => by rw [← hL]; rfl
  clear hw0 hws hI hle hL
  (repeat' (first | (apply And.intro) | (intro _))) <;> (try simp (disch := omega) only [w64, wu64, wu8, Int.toNat_natCast, toNat_add_one, toNat_one_add] at *) <;> (try (first | (with_reducible rfl) | (with_reducible assumption) | exact True.intro | omega))
  · exact ⟨0, by omega, rfl, opTo_zero _ _⟩
  · rename_i x h1 h2 h3
    exact ⟨x + 1, by omega, by omega, by omega, opTo_hit callL_nodup (by rw [hl]; omega) h3⟩
  · rename_i x h1 h2 h3
    exact ⟨x + 1, by omega, by omega, by omega, opTo_miss (by rw [hl]; omega) h3⟩
  · rename_i x h1 h2 h3
    have hx : x = 20 := by omega
    subst hx
    have h := hn (hno (.inl h3)) cal0
    exact ⟨_, h.1, h.2, rfl, rfl, rfl, rfl, rfl⟩
  · rename_i x h1 h2 _ h4
    have hx : x = 20 := by omega
    subst hx
    rw [w64 (by omega) (by omega)] at h4
    have h := hn (hno (.inr (.inl fun e => h4 (by omega)))) cal0
    exact ⟨_, h.1, h.2, rfl, rfl, rfl, rfl, rfl⟩
  · rename_i x h1 h2 _ h4
    have hx : x = 20 := by omega
    subst hx
    rw [w64 (by omega) (by omega)] at h4
    exact ⟨0, ⟨Nat.zero_le _, by omega, rfl⟩, rfl, rfl, rfl, rfl, rfl, rfl, rfl⟩
  · rename_i k h5 h6
    rcases hlet k h6 with h | h | h | h <;> rw [h] <;> decide
  · rename_i k h5 h6 h7
    have hk : k < ws.length := by omega
    rw [hat k] at h7
    have h := hn (hno (.inr (.inr (.inl (all_not [] hk h7))))) cal0
    exact ⟨_, h.1, h.2, rfl, rfl, rfl, rfl, rfl⟩
  · rename_i k h5 h6 h8 h7
    have hk : k < ws.length := by omega
    rw [hat k] at h7 ⊢
    have h8 : (callT (opTo callL 20 w)).getD k 0 = 65 := toNat_eq h8
    exact ⟨k + 1, ⟨by omega, by omega, by rw [take_all_succ [] hk h5.2.2]; exact h7⟩, by omega, by rw [calTo_65 h8], by rw [calTo_65 h8], by rw [calTo_65 h8], by rw [calTo_65 h8], by rw [calTo_65 h8], by rw [if_pos h6]⟩
  · rename_i k h5 h6 _ h8 h7
    have hk : k < ws.length := by omega
    rw [hat k] at h7 ⊢
    have h8 : (callT (opTo callL 20 w)).getD k 0 = 66 := toNat_eq h8
    exact ⟨k + 1, ⟨by omega, by omega, by rw [take_all_succ [] hk h5.2.2]; exact h7⟩, by omega, by rw [calTo_66 h8], by rw [calTo_66 h8], by rw [calTo_66 h8], by rw [calTo_66 h8], by rw [calTo_66 h8], by rw [if_pos h6]⟩
  · rename_i k h5 h6 _ _ h8 h7
    have hk : k < ws.length := by omega
    rw [hat k] at h7 ⊢
    have h8 : (callT (opTo callL 20 w)).getD k 0 = 67 := toNat_eq h8
    exact ⟨k + 1, ⟨by omega, by omega, by rw [take_all_succ [] hk h5.2.2]; exact h7⟩, by omega, by rw [calTo_67 h8], by rw [calTo_67 h8], by rw [calTo_67 h8], by rw [calTo_67 h8], by rw [calTo_67 h8], by rw [if_pos h6]⟩
  · rename_i k h5 h6 _ _ _ h8 h7
    have hk : k < ws.length := by omega
    rw [hat k] at h7 ⊢
    have h8 : (callT (opTo callL 20 w)).getD k 0 = 68 := toNat_eq h8
    exact ⟨k + 1, ⟨by omega, by omega, by rw [take_all_succ [] hk h5.2.2]; exact h7⟩, by omega, by rw [calTo_68 h8], by rw [calTo_68 h8], by rw [calTo_68 h8], by rw [calTo_68 h8], by rw [calTo_68 h8], by rw [if_pos h6]⟩
  · rename_i k h5 h6 n1 n2 n3 n4 h7
    exfalso
    rcases hlet k h6 with h | h | h | h
    · exact n1 (by rw [h]; rfl)
    · exact n2 (by rw [h]; rfl)
    · exact n3 (by rw [h]; rfl)
    · exact n4 (by rw [h]; rfl)
  · rename_i x h1 h2 hpos h4 k h5 h6
    have hx : x = 20 := by omega
    subst hx
    have hk : k = (callT (opTo callL 20 w)).length := by omega
    have hw : k = ws.length := by omega
    rw [hw, List.take_length] at h5
    rw [hk]
    obtain ⟨i, hi⟩ : ∃ i : Nat, opTo callL 20 w = i := ⟨(opTo callL 20 w).toNat, by omega⟩
    cases hr : calRight (calTo (opTo callL 20 w) ws (callT (opTo callL 20 w)).length) with
    | false =>
      have h := hn (hno (.inr (.inr (.inr hr)))) (calTo (opTo callL 20 w) ws (callT (opTo callL 20 w)).length)
      exact ⟨_, h.1, h.2, rfl, rfl, rfl, rfl, rfl⟩
    | true =>
      rw [hi] at hr ⊢
      have h := hyes i hi (by rw [← hi]; omega) h5.2.2 hr
      rw [h]
      exact ⟨_, fun t ht => Option.some.inj ht, rfl, rfl, rfl, rfl, rfl, rfl⟩
end Go.Sx.Tryd
namespace Go.Sx.Tryd
open Go Go.Sx Go.Proofs
variable {mx : Int}
set_option linter.unusedSimpArgs false
set_option maxRecDepth 20000
set_option maxHeartbeats 4000000
def rcallInv (a : List (List UInt8)) : Nat → Option Inv := fun id =>
  bif id == 2 then some { α := Nat, keep := [0, 2], drop := [], env := fun _ x => [(4, .r (.c (.int .i64 x)))], chunks := fun _ _ => [], fresh := 0, pre := fun x => x ≤ 20 ∧ ∀ j, j < x → callL.getD j [] ≠ a.getD 0 [], μ := fun x => 20 - x } else
  bif id == 10 then some { α := Nat, keep := [2, 4, 5, 7], drop := [2], env := fun _ x => [(8, .r (.c (.int .i64 x)))], chunks := fun _ x => [(2, .cells 48 (calC (calTo (opC a) a.tail x)))], fresh := 0, pre := fun x => x ≤ (callT (opC a)).length ∧ a.tail.length = (callT (opC a)).length, μ := fun x => (callT (opC a)).length - x } else none
theorem rcall_does : Does Tryd.prog (glS mx) 67 (rcallSpec) := by
  refine Does.of (fn := Tryd.f67) Tryd.func67 rfl ttok (spec := lookS [(47, nameI callL), (90, fnP callT 20), (38, numsSpec), (30, calRSpec)]) ((((Known.nil.cons callee30 rcalRight_does).cons callee38 nums_does).cons callee90 parts_does).cons callee47 rcallNameI_does) (pc := fun _ => true) ((((PureOk.nil.cons (s := calRSpec) (k := 30) (fun _ _ => rfl)).cons (s := numsSpec) (k := 38) (fun _ _ => rfl)).cons (s := fnP callT 20) (k := 90) (fun _ _ => rfl)).cons (s := nameI callL) (k := 47) (fun _ _ => rfl)) mixed (rcallSpec) (fun a id _ => rcallInv a id) (ord67) 3000 (rs := [.cell 2 48, .tmp 3]) rfl (n := 65) rfl (by decide) (by kernel_rfl) ?_
  intro (a : List (List UInt8)) hp
  refine ⟨of_decide_eq_true (by kernel_rfl), ?_⟩
  refine vc_of (Q := (∃ (x : Nat), (x ≤ (20 : Nat) ∧ ∀ (j : Nat), j < x → callL.getD j [] ≠ a.getD (0 : Nat) []) ∧ true = true ∧ true = true ∧ (↑x : Int) = (0 : Int) ∧ (1 : Nat) = (1 : Nat) ∧ a.length = a.length ∧ (∀ (i j : Nat), i < a.length → j < (1 : Nat) → CV.str (a.getD i []) = CV.str (a.getD i [])) ∧ (0 : Nat) < (1 : Nat) ∧ some (0 : Nat) = some (0 : Nat) ∧ (0 : Nat) = (0 : Nat) ∧ (0 : Nat) < (1 : Nat) ∧ (48 : Nat) = (48 : Nat) ∧ true = true ∧ (0 : Int) = (0 : Int) ∧ true = true ∧ (0 : Int) = (0 : Int) ∧ true = true ∧ (0 : Int) = (0 : Int) ∧ true = true ∧ (0 : Int) = (0 : Int) ∧ true = true ∧ (0 : Int) = (0 : Int) ∧ True) ∧ ∀ (x : Nat), (x ≤ (20 : Nat) ∧ ∀ (j : Nat), j < x → callL.getD j [] ≠ a.getD (0 : Nat) []) → (decide ((↑x : Int) < (20 : Int)) = true → decide ((↑x : Int) < (20 : Int)) = true) ∧ (decide ((↑x : Int) < (20 : Int)) = true → decide ((↑x : Int) < (20 : Int)) = true) ∧ (decide ((↑x : Int) < (20 : Int)) = true → decide ((↑x : Int) < (20 : Int)) = true) ∧ bif bif decide ((↑x : Int) < (20 : Int)) then decide ((0 : Int) < (↑a.length : Int)) else false then ((0 : Int) ≤ (0 : Int) ∧ (0 : Int) < (↑a.length : Int)) ∧ (0 : Nat) < a.length ∧ (1 : Nat) ≤ (1 : Nat) ∧ true = true ∧ True ∧ true = true ∧ (↑x : Int) = (↑x : Int) ∧ true = true ∧ ∀ (b : Unit), True → bif !decide (nameAt callL (↑x : Int) = a.getD (0 : Nat) []) then ∃ (x' : Nat), (x' ≤ (20 : Nat) ∧ ∀ (j : Nat), j < x' → callL.getD j [] ≠ a.getD (0 : Nat) []) ∧ (20 : Nat) - x' < (20 : Nat) - x ∧ true = true ∧ true = true ∧ (↑x' : Int) = IntKind.i64.wrap ((↑x : Int) + (1 : Int)) ∧ (1 : Nat) = (1 : Nat) ∧ a.length = a.length ∧ (∀ (i j : Nat), i < a.length → j < (1 : Nat) → CV.str (a.getD i []) = CV.str (a.getD i [])) ∧ (0 : Nat) < (1 : Nat) ∧ some (0 : Nat) = some (0 : Nat) ∧ (0 : Nat) = (0 : Nat) ∧ (0 : Nat) < (1 : Nat) ∧ (48 : Nat) = (48 : Nat) ∧ true = true ∧ (0 : Int) = (0 : Int) ∧ true = true ∧ (0 : Int) = (0 : Int) ∧ true = true ∧ (0 : Int) = (0 : Int) ∧ true = true ∧ (0 : Int) = (0 : Int) ∧ true = true ∧ (0 : Int) = (0 : Int) ∧ True else ((0 : Int) ≤ (1 : Int) ∧ (1 : Int) ≤ (↑a.length : Int) ∧ (↑a.length : Int) ≤ (↑a.length : Int)) ∧ ∃ (a_3 : List (List UInt8)), a_3.length < (4294967290 : Nat) ∧ (1 : Nat) = (1 : Nat) ∧ a_3.length = (↑a.length : Int).toNat - (1 : Nat) ∧ (∀ (i j : Nat), i < a_3.length → j < (1 : Nat) → CV.str (a_3.getD i []) = CV.str (a.getD ((1 : Nat) + i) [])) ∧ true = true ∧ ∀ (b : Unit), True → ((!!a_3.all okW) = true → (!!a_3.all okW) = true) ∧ bif !!a_3.all okW then ((!!a_3.all okW) = true → (!!a_3.all okW) = true) ∧ ((0 : Int) ≤ (↑x : Int) ∧ (↑x : Int) < (20 : Int)) ∧ true = true ∧ (↑x : Int) = (↑x : Int) ∧ true = true ∧ ∀ (b : Unit), True → ((!!a_3.all okW) = true → (!!a_3.all okW) = true) ∧ ((!!a_3.all okW) = true → (!!a_3.all okW) = true) ∧ ((!a_3.all okW) = false → (!!a_3.all okW) = true) ∧ bif bif !a_3.all okW then true else !decide ((↑(numsL a_3).length : Int) = (↑(callT (↑x : Int)).length : Int)) then true = true ∧ (5 : Nat) = (5 : Nat) ∧ (5 : Nat) ≤ (5 : Nat) ∧ (5 : Nat) ≤ (5 : Nat) ∧ true = true ∧ true = true ∧ true = true ∧ true = true ∧ true = true ∧ ∃ (b : Cal), (∀ (t : Cal), callOf a = some t → b = t) ∧ true = true ∧ true = true ∧ b.op = (0 : Int) ∧ true = true ∧ b.a = (0 : Int) ∧ true = true ∧ b.b = (0 : Int) ∧ true = true ∧ b.c = (0 : Int) ∧ true = true ∧ b.d = (0 : Int) ∧ (callOf a).isSome = false ∧ True else true = true ∧ (5 : Nat) = (5 : Nat) ∧ (5 : Nat) ≤ (5 : Nat) ∧ (∃ (x_1 : Nat), (x_1 ≤ (callT (opC a)).length ∧ a.tail.length = (callT (opC a)).length) ∧ true = true ∧ true = true ∧ (↑x_1 : Int) = (0 : Int) ∧ (0 : Nat) < (3 : Nat) ∧ some (0 : Nat) = some (0 : Nat) ∧ (0 : Nat) = (0 : Nat) ∧ true = true ∧ (↑x : Int) = (↑x : Int) ∧ (1 : Nat) < (3 : Nat) ∧ some (1 : Nat) = some (1 : Nat) ∧ (2 : Nat) < (3 : Nat) ∧ some (2 : Nat) = some (2 : Nat) ∧ (0 : Nat) = (0 : Nat) ∧ (2 : Nat) < (3 : Nat) ∧ (48 : TypeId) = (48 : Nat) ∧ true = true ∧ (calTo (opC a) a.tail x_1).op = (↑x : Int) ∧ true = true ∧ (calTo (opC a) a.tail x_1).a = (0 : Int) ∧ true = true ∧ (calTo (opC a) a.tail x_1).b = (0 : Int) ∧ true = true ∧ (calTo (opC a) a.tail x_1).c = (0 : Int) ∧ true = true ∧ (calTo (opC a) a.tail x_1).d = (0 : Int) ∧ (1 : Nat) < (3 : Nat) ∧ (3 : TypeId) = (3 : TypeId) ∧ (1 : Nat) = (1 : Nat) ∧ (numsL a_3).length = (numsL a_3).length ∧ (∀ (i j : Nat), i < (numsL a_3).length → j < (1 : Nat) → CV.int IntKind.i64 ((numsL a_3).getD i (0 : Int)) = CV.int IntKind.i64 ((numsL a_3).getD i (0 : Int))) ∧ (0 : Nat) < (3 : Nat) ∧ (48 : Nat) = (48 : Nat) ∧ true = true ∧ (0 : Int) = (0 : Int) ∧ true = true ∧ (0 : Int) = (0 : Int) ∧ true = true ∧ (0 : Int) = (0 : Int) ∧ true = true ∧ (0 : Int) = (0 : Int) ∧ true = true ∧ (0 : Int) = (0 : Int) ∧ True) ∧ ∀ (x_1 : Nat), x_1 ≤ (callT (opC a)).length ∧ a.tail.length = (callT (opC a)).length → bif decide ((↑x_1 : Int) < (↑(numsL a_3).length : Int)) then ((0 : Int) ≤ (↑x_1 : Int) ∧ (↑x_1 : Int) < (↑(numsL a_3).length : Int)) ∧ (↑x_1 : Int).toNat < (numsL a_3).length ∧ (1 : Nat) = (1 : Nat) ∧ (1 : Nat) ≤ (1 : Nat) ∧ true = true ∧ ((0 : Int) ≤ (↑x : Int) ∧ (↑x : Int) < (20 : Int)) ∧ true = true ∧ (↑x : Int) = (↑x : Int) ∧ true = true ∧ ∀ (b : Unit), True → ((0 : Int) ≤ (↑x_1 : Int) ∧ (↑x_1 : Int) < (↑(callT (↑x : Int)).length : Int)) ∧ ((0 : Int) ≤ IntKind.i64.wrap (IntKind.u8.wrap ((↑((callT (↑x : Int)).getD (↑x_1 : Int).toNat (0 : UInt8)).toNat : Int) - (65 : Int))) ∧ IntKind.i64.wrap (IntKind.u8.wrap ((↑((callT (↑x : Int)).getD (↑x_1 : Int).toNat (0 : UInt8)).toNat : Int) - (65 : Int))) < (4 : Int)) ∧ true = true ∧ (1 : Nat) = (1 : Nat) ∧ (1 : Nat) + (IntKind.i64.wrap (IntKind.u8.wrap ((↑((callT (↑x : Int)).getD (↑x_1 : Int).toNat (0 : UInt8)).toNat : Int) - (65 : Int)))).toNat * (1 : Nat) + (1 : Nat) ≤ (5 : Nat) ∧ ∃ (x' : Nat), (x' ≤ (callT (opC a)).length ∧ a.tail.length = (callT (opC a)).length) ∧ (callT (opC a)).length - x' < (callT (opC a)).length - x_1 ∧ true = true ∧ true = true ∧ (↑x' : Int) = IntKind.i64.wrap ((↑x_1 : Int) + (1 : Int)) ∧ (0 : Nat) < (3 : Nat) ∧ some (0 : Nat) = some (0 : Nat) ∧ (0 : Nat) = (0 : Nat) ∧ true = true ∧ (↑x : Int) = (↑x : Int) ∧ (1 : Nat) < (3 : Nat) ∧ some (1 : Nat) = some (1 : Nat) ∧ (2 : Nat) < (3 : Nat) ∧ some (2 : Nat) = some (2 : Nat) ∧ (0 : Nat) = (0 : Nat) ∧ (2 : Nat) < (3 : Nat) ∧ (48 : TypeId) = (48 : TypeId) ∧ allP (catP (eqvL (3 : Nat) (fun (h : Nat) => if h < (3 : Nat) then some h else bif (0 : Nat) == h then some (0 : Nat) else bif (1 : Nat) == h then some (1 : Nat) else bif (2 : Nat) == h then some (2 : Nat) else look (catE (catE (collL [CV.int IntKind.i64 (calTo (opC a) a.tail x').op, CV.int IntKind.i64 (calTo (opC a) a.tail x').a, CV.int IntKind.i64 (calTo (opC a) a.tail x').b, CV.int IntKind.i64 (calTo (opC a) a.tail x').c, CV.int IntKind.i64 (calTo (opC a) a.tail x').d] (setN [CV.int IntKind.i64 (calTo (opC a) a.tail x_1).op, CV.int IntKind.i64 (calTo (opC a) a.tail x_1).a, CV.int IntKind.i64 (calTo (opC a) a.tail x_1).b, CV.int IntKind.i64 (calTo (opC a) a.tail x_1).c, CV.int IntKind.i64 (calTo (opC a) a.tail x_1).d] ((1 : Nat) + (IntKind.i64.wrap (IntKind.u8.wrap ((↑((callT (↑x : Int)).getD (↑x_1 : Int).toNat (0 : UInt8)).toNat : Int) - (65 : Int)))).toNat * (1 : Nat)) (CV.int IntKind.i64 ((numsL a_3).getD (↑x_1 : Int).toNat (0 : Int))))) []) (catE (collL [CV.int IntKind.i64 (calTo (opC a) a.tail x').op, CV.int IntKind.i64 (calTo (opC a) a.tail x').a, CV.int IntKind.i64 (calTo (opC a) a.tail x').b, CV.int IntKind.i64 (calTo (opC a) a.tail x').c, CV.int IntKind.i64 (calTo (opC a) a.tail x').d] (setN [CV.int IntKind.i64 (calTo (opC a) a.tail x_1).op, CV.int IntKind.i64 (calTo (opC a) a.tail x_1).a, CV.int IntKind.i64 (calTo (opC a) a.tail x_1).b, CV.int IntKind.i64 (calTo (opC a) a.tail x_1).c, CV.int IntKind.i64 (calTo (opC a) a.tail x_1).d] ((1 : Nat) + (IntKind.i64.wrap (IntKind.u8.wrap ((↑((callT (↑x : Int)).getD (↑x_1 : Int).toNat (0 : UInt8)).toNat : Int) - (65 : Int)))).toNat * (1 : Nat)) (CV.int IntKind.i64 ((numsL a_3).getD (↑x_1 : Int).toNat (0 : Int))))) [])) h) [CV.int IntKind.i64 (calTo (opC a) a.tail x').op, CV.int IntKind.i64 (calTo (opC a) a.tail x').a, CV.int IntKind.i64 (calTo (opC a) a.tail x').b, CV.int IntKind.i64 (calTo (opC a) a.tail x').c, CV.int IntKind.i64 (calTo (opC a) a.tail x').d] (setN [CV.int IntKind.i64 (calTo (opC a) a.tail x_1).op, CV.int IntKind.i64 (calTo (opC a) a.tail x_1).a, CV.int IntKind.i64 (calTo (opC a) a.tail x_1).b, CV.int IntKind.i64 (calTo (opC a) a.tail x_1).c, CV.int IntKind.i64 (calTo (opC a) a.tail x_1).d] ((1 : Nat) + (IntKind.i64.wrap (IntKind.u8.wrap ((↑((callT (↑x : Int)).getD (↑x_1 : Int).toNat (0 : UInt8)).toNat : Int) - (65 : Int)))).toNat * (1 : Nat)) (CV.int IntKind.i64 ((numsL a_3).getD (↑x_1 : Int).toNat (0 : Int))))) [(1 : Nat) < (3 : Nat), (3 : TypeId) = (3 : TypeId), (1 : Nat) = (1 : Nat), (numsL a_3).length = (numsL a_3).length, ∀ (i j : Nat), i < (numsL a_3).length → j < (1 : Nat) → CV.int IntKind.i64 ((numsL a_3).getD i (0 : Int)) = CV.int IntKind.i64 ((numsL a_3).getD i (0 : Int)), (0 : Nat) < (3 : Nat), (48 : Nat) = (48 : Nat), true = true, (0 : Int) = (0 : Int), true = true, (0 : Int) = (0 : Int), true = true, (0 : Int) = (0 : Int), true = true, (0 : Int) = (0 : Int), true = true, (0 : Int) = (0 : Int)]) True else (5 : Nat) ≤ (5 : Nat) ∧ true = true ∧ true = true ∧ true = true ∧ true = true ∧ true = true ∧ (5 : Nat) ≤ (5 : Nat) ∧ true = true ∧ true = true ∧ true = true ∧ true = true ∧ true = true ∧ True ∧ true = true ∧ (calTo (opC a) a.tail x_1).op = (calTo (opC a) a.tail x_1).op ∧ true = true ∧ (calTo (opC a) a.tail x_1).a = (calTo (opC a) a.tail x_1).a ∧ true = true ∧ (calTo (opC a) a.tail x_1).b = (calTo (opC a) a.tail x_1).b ∧ true = true ∧ (calTo (opC a) a.tail x_1).c = (calTo (opC a) a.tail x_1).c ∧ true = true ∧ (calTo (opC a) a.tail x_1).d = (calTo (opC a) a.tail x_1).d ∧ true = true ∧ ∀ (b : Unit), True → true = true ∧ (5 : Nat) = (5 : Nat) ∧ (5 : Nat) ≤ (5 : Nat) ∧ (5 : Nat) ≤ (5 : Nat) ∧ true = true ∧ true = true ∧ true = true ∧ true = true ∧ true = true ∧ ∃ (b : Cal), (∀ (t : Cal), callOf a = some t → b = t) ∧ true = true ∧ true = true ∧ b.op = (calTo (opC a) a.tail x_1).op ∧ true = true ∧ b.a = (calTo (opC a) a.tail x_1).a ∧ true = true ∧ b.b = (calTo (opC a) a.tail x_1).b ∧ true = true ∧ b.c = (calTo (opC a) a.tail x_1).c ∧ true = true ∧ b.d = (calTo (opC a) a.tail x_1).d ∧ (callOf a).isSome = calRight { op := (calTo (opC a) a.tail x_1).op, a := (calTo (opC a) a.tail x_1).a, b := (calTo (opC a) a.tail x_1).b, c := (calTo (opC a) a.tail x_1).c, d := (calTo (opC a) a.tail x_1).d } ∧ True else (!!a_3.all okW) = false ∧ (!!a_3.all okW) = false ∧ (!a_3.all okW) = true ∧ true = true ∧ (5 : Nat) = (5 : Nat) ∧ (5 : Nat) ≤ (5 : Nat) ∧ (5 : Nat) ≤ (5 : Nat) ∧ true = true ∧ true = true ∧ true = true ∧ true = true ∧ true = true ∧ ∃ (b : Cal), (∀ (t : Cal), callOf a = some t → b = t) ∧ true = true ∧ true = true ∧ b.op = (0 : Int) ∧ true = true ∧ b.a = (0 : Int) ∧ true = true ∧ b.b = (0 : Int) ∧ true = true ∧ b.c = (0 : Int) ∧ true = true ∧ b.d = (0 : Int) ∧ (callOf a).isSome = false ∧ True else true = true ∧ (5 : Nat) = (5 : Nat) ∧ (5 : Nat) ≤ (5 : Nat) ∧ (5 : Nat) ≤ (5 : Nat) ∧ true = true ∧ true = true ∧ true = true ∧ true = true ∧ true = true ∧ ∃ (b : Cal), (∀ (t : Cal), callOf a = some t → b = t) ∧ true = true ∧ true = true ∧ b.op = (0 : Int) ∧ true = true ∧ b.a = (0 : Int) ∧ true = true ∧ b.b = (0 : Int) ∧ true = true ∧ b.c = (0 : Int) ∧ true = true ∧ b.d = (0 : Int) ∧ (callOf a).isSome = false ∧ True) (by kernel_rfl) ?_
  try simp only [condP, eq_self, true_and, and_true, and_self, cond_or, cond_and, decide_true, decide_false, imp_self, implies_true, forall_const, exists_const, exists_prop, decide_eq_true_eq, decide_eq_false_iff_not, Bool.and_eq_true, Bool.or_eq_true, Bool.not_eq_true', Bool.not_eq_false', Bool.or_eq_false_iff, Bool.and_eq_false_imp, tdiv_u64, tmod_u64, Int.toNat_natCast, Int.toNat_zero, Int.reduceToNat, Int.reduceAdd, Int.reduceMod, Int.reduceSub, Int.reduceMul, Int.reduceNeg, Int.reduceLT, Int.reduceLE, Int.cast_ofNat_Int, Nat.reduceLT, Nat.reduceLeDiff, Nat.reduceEqDiff, Nat.reduceAdd, Nat.reduceMul, Nat.reduceSub, Nat.reducePow, Nat.le_refl, Int.le_refl, Nat.zero_add, Nat.add_zero, Nat.mul_one, Nat.zero_le, Bool.false_eq_true, Bool.true_eq_false, reduceCtorEq, not_false_eq_true, not_true_eq_false, false_implies, true_implies, Nat.lt_irrefl, Int.lt_irrefl, UInt8.reduceOfNat, UInt8.reduceToNat]
  match a, hp with
  | [], _ =>
    simp [callOf]
    exact fun _ _ _ => ⟨cal0, rfl, rfl, rfl, rfl, rfl⟩
  | w :: ws, hp =>
  have hp : (w :: ws).length < 4294967281 := hp
  have hle : (w :: ws).length = ws.length + 1 := rfl
  rw [hle] at hp
  have hno := fun h => callOf_no (w := w) (ws := ws) h
  have hyes := fun i => callOf_cons (w := w) (ws := ws) (i := i)
  have hl : callL.length = 20 := rfl
  have h3 := callT_len4 (opTo callL 20 w)
  have hlet := callT_lt (opTo callL 20 w)
  have hI : opC (w :: ws) = opTo callL 20 w := rfl
  have hn : callOf (w :: ws) = none → ∀ b : Cal, (∀ t, callOf (w :: ws) = some t → b = t) ∧ (callOf (w :: ws)).isSome = false := fun h b => (by rw [h]; exact ⟨fun t ht => (by cases ht), rfl⟩)
  have hw0 : (w :: ws).getD 0 [] = w := rfl
  have hws : (w :: ws).tail = ws := rfl
  have hat : ∀ i j : Nat, CV.str ((w :: ws).getD (1 + i) []) = .str (ws.getD i []) := fun i _ => by rw [Nat.add_comm]; rfl
  have hop : ∀ x : Nat, x < 20 → nameAt callL x = w → (∀ j, j < x → callL.getD j [] ≠ w) → opTo callL 20 w = x := fun x hx h hb => by
    rw [nameAt_in (by omega), Int.toNat_natCast] at h
    rw [opTo_all hl, opIx_first (by omega) h hb]
  simp only [hw0, hws, hle, hI, okW_def, valW_def]
  generalize hL : w :: ws = L at *
  clear hw0 hws hI hle hL
  (repeat' (first | (apply And.intro) | (intro _))) <;> (try simp (disch := omega) only [w64, wu64, wu8, Int.toNat_natCast, toNat_add_one, toNat_one_add] at *) <;> (try (first | (with_reducible rfl) | (with_reducible assumption) | exact True.intro | omega))
  · exact ⟨0, ⟨by omega, fun j hj => absurd hj (Nat.not_lt_zero _)⟩, rfl⟩
  · rename_i x h1 h2 hw
    refine ⟨x + 1, ⟨by omega, fun j hj e => ?_⟩, by omega, by omega⟩
    by_cases hj' : j < x
    · exact h1.2 j hj' e
    · rw [show j = x by omega] at e
      exact hw (by rw [nameAt_in (by omega), Int.toNat_natCast]; exact e)
  · rename_i x h1 h2 hw
    have ho := hop x (by omega) hw h1.2
    refine ⟨ws, by omega, by omega, fun i j _ _ => (hat i j).symm, ?_⟩
    have hnl : ws.all okW = true → numsL ws = ws.map valW := fun h => by unfold numsL; rw [if_pos h]
    (repeat' (first | (apply And.intro) | (intro _))) <;> (try simp (disch := omega) only [w64, wu64, wu8, Int.toNat_natCast, toNat_add_one, toNat_one_add] at *) <;> (try (first | (with_reducible rfl) | (with_reducible assumption) | exact True.intro | omega))
    · rename_i h3 h4
      have h := hn (hno (.inr (.inl fun e => by
        rcases h4 with h4 | h4
        · rw [h3] at h4; cases h4
        · rw [hnl h3, List.length_map] at h4
          rw [ho] at e
          omega))) cal0
      exact ⟨_, h.1, rfl, rfl, rfl, rfl, rfl, h.2⟩
    · rename_i h3 h4
      have h5 := h4.2
      rw [hnl h3, List.length_map] at h5
      exact ⟨0, ⟨Nat.zero_le _, by rw [ho]; omega⟩, rfl, ho, rfl, rfl, rfl, rfl⟩
    · rename_i h3 h4 k h5 h6
      rw [hnl h3, List.length_map] at h6
      have h7 := hlet k (by omega)
      rw [ho] at h7
      rcases h7 with h7 | h7 | h7 | h7 <;> rw [h7] <;> decide
    · rename_i h3 h4 k h5 h6
      rw [hnl h3, List.length_map] at h6
      have h7 := hlet k (by omega)
      rw [ho] at h7
      rcases h7 with h7 | h7 | h7 | h7 <;> rw [h7] <;> decide
    · rename_i h3 h4 k h5 h6
      rw [hnl h3, List.length_map] at h6
      have h7 := hlet k (by omega)
      rw [ho] at h7
      rcases h7 with h7 | h7 | h7 | h7 <;> rw [h7] <;> decide
    · rename_i h3 h4 k h5 h6
      rw [hnl h3, List.length_map] at h6
      have hk : k < ws.length := by omega
      have hnv : (numsL ws).getD k 0 = valW (ws.getD k []) := by
        rw [hnl h3]
        simp [hk]
      have h7 := hlet k (by omega)
      rw [ho] at h7
      rcases h7 with h8 | h8 | h8 | h8
      · have h8' : (callT (opTo callL 20 w)).getD k 0 = 65 := by rw [ho]; exact h8
        have e : (IntKind.i64.wrap (IntKind.u8.wrap (((65 : UInt8).toNat : Int) - 65))).toNat = 0 := by decide
        rw [h8, e]
        refine ⟨k + 1, ⟨by omega, by omega⟩, by omega, by omega, ?_⟩
        rw [calTo_65 h8', hnv]
        simp [eqvL, setN, CV.eqv, catP, allP, ikEq]
      · have h8' : (callT (opTo callL 20 w)).getD k 0 = 66 := by rw [ho]; exact h8
        have e : (IntKind.i64.wrap (IntKind.u8.wrap (((66 : UInt8).toNat : Int) - 65))).toNat = 1 := by decide
        rw [h8, e]
        refine ⟨k + 1, ⟨by omega, by omega⟩, by omega, by omega, ?_⟩
        rw [calTo_66 h8', hnv]
        simp [eqvL, setN, CV.eqv, catP, allP, ikEq]
      · have h8' : (callT (opTo callL 20 w)).getD k 0 = 67 := by rw [ho]; exact h8
        have e : (IntKind.i64.wrap (IntKind.u8.wrap (((67 : UInt8).toNat : Int) - 65))).toNat = 2 := by decide
        rw [h8, e]
        refine ⟨k + 1, ⟨by omega, by omega⟩, by omega, by omega, ?_⟩
        rw [calTo_67 h8', hnv]
        simp [eqvL, setN, CV.eqv, catP, allP, ikEq]
      · have h8' : (callT (opTo callL 20 w)).getD k 0 = 68 := by rw [ho]; exact h8
        have e : (IntKind.i64.wrap (IntKind.u8.wrap (((68 : UInt8).toNat : Int) - 65))).toNat = 3 := by decide
        rw [h8, e]
        refine ⟨k + 1, ⟨by omega, by omega⟩, by omega, by omega, ?_⟩
        rw [calTo_68 h8', hnv]
        simp [eqvL, setN, CV.eqv, catP, allP, ikEq]
    · rename_i h3 h4 k h5 h6
      rw [hnl h3, List.length_map] at h6
      have hk : k = (callT (opTo callL 20 w)).length := by omega
      rw [hk]
      cases hr : calRight (calTo (opTo callL 20 w) ws (callT (opTo callL 20 w)).length) with
      | false =>
        have h := hn (hno (.inr (.inr (.inr hr)))) (calTo (opTo callL 20 w) ws (callT (opTo callL 20 w)).length)
        exact ⟨_, h.1, rfl, rfl, rfl, rfl, rfl, h.2⟩
      | true =>
        rw [ho] at hr ⊢
        have h := hyes x ho (by rw [← ho]; omega) h3 hr
        rw [h]
        exact ⟨_, fun t ht => Option.some.inj ht, rfl, rfl, rfl, rfl, rfl, rfl⟩
    · rename_i h3
      have h := hn (hno (.inr (.inr (.inl h3)))) cal0
      exact ⟨_, h.1, rfl, rfl, rfl, rfl, rfl, h.2⟩
  · rename_i x h1 h2
    have hx : x = 20 := by omega
    subst hx
    have h := hn (hno (.inl (opTo_neg hl h1.2))) cal0
    exact ⟨_, h.1, rfl, rfl, rfl, rfl, rfl, h.2⟩
end Go.Sx.Tryd
