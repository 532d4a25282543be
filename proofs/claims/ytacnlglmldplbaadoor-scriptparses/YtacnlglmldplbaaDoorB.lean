/- A part of the proof of the theorem in the last text of this folder: a symbolic executor over the model, and contracts of functions. -/
import Derived.Test.YtacnlglmldplbaaDoorA
import Derived.Lib.OthersKept
import Derived.Laws.RangeString
set_option linter.unusedSimpArgs false
set_option linter.unusedVariables false
namespace Go.Sx
open Go

section
variable {F : Fx} {cx : Cx} {ρ : Env} {S : Nat → Prop} {st : SS} {a : Act} {w : World}

theorem zero_den : ∀ {vs : List Value} {cs : List CV}, vs.map constCV = cs.map some → denL (CV.den ρ S w) cs vs
  | [], [], _ => trivial
  | [], _ :: _, h => by simp at h
  | _ :: _, [], h => by simp at h
  | v :: vs, c :: cs, h => by
    simp only [List.map_cons, List.cons.injEq] at h
    exact ⟨constCV_den h.1, zero_den h.2⟩

theorem RV.cells_den {v : RV} {u : Value} (h : v.den ρ S w u) : denL (CV.den ρ S w) v.cells u.cells.toList := by
  cases v with
  | c x =>
    have h1 := den_oneCell h
    have : u.cells = #[u] := by cases u <;> first | rfl | (simp [Value.oneCell'] at h1; done)
    rw [this]
    exact ⟨h, trivial⟩
  | agg l => obtain ⟨vs, rfl, hd⟩ := h; exact hd

theorem getPs_sound (H : Sat F cx ρ S st a w) {g : GC} (hg : g.wants = true) : ∀ {xs : List (Nat × Operand)} {ps : List (Nat × List CV)} {ns : List Prop}, getPs cx st g xs = some (ps, ns) → allOf ns →
    ps.length = xs.length ∧ ∀ (k : Nat) (p : Nat × List CV) (x : Nat × Operand), ps[k]? = some p → xs[k]? = some x → p.1 = x.1 ∧ denL (CV.den ρ S w) p.2 (a.eval x.2).cells.toList
  | [], ps, ns, h, _ => by
    simp only [getPs, Option.some.injEq, Prod.mk.injEq] at h
    obtain ⟨rfl, rfl⟩ := h
    exact ⟨rfl, fun k p x h => by simp at h⟩
  | (i, x) :: xs, ps, ns, h, hv => by
    simp only [getPs] at h
    split at h
    · rename_i v n vs ns' hx hr
      simp only [Option.some.injEq, Prod.mk.injEq] at h
      obtain ⟨rfl, rfl⟩ := h
      rw [allOf_cat] at hv
      obtain ⟨h1, h2⟩ := getPs_sound H hg hr hv.2
      refine ⟨by simp [h1], fun k p y hp hy => ?_⟩
      cases k with
      | zero =>
        simp only [List.getElem?_cons_zero, Option.some.injEq] at hp hy
        subst hp hy
        exact ⟨rfl, RV.cells_den (getV_den H hx hv.1 hg)⟩
      | succ k => exact h2 k p y (by simpa using hp) (by simpa using hy)
    · cases h

theorem pure_build (H : Sat F cx ρ S st a w) (hT : TTok F.P cx.tt) {g : GC} {t : TypeId} {parts : Array (Nat × Operand)} {vc : List Prop} {r : RV}
    (h : pureOp cx st g (.build t parts) = some (vc, r)) (hv : allOf vc) (hg : g.wants = true) (o : Oper) (ho : o.op = .build t parts) : Gives F a o (r.den ρ S w) := by
  simp only [pureOp] at h
  split at h
  · cases h
  · rename_i ps ns hps
    have hrun : ∀ cells, F.P.built t (parts.map fun (i, x) => (i, a.eval x)).toList = some cells → ∀ w', (execOp a.eval o).run F.P w' = .ok (.value (.agg cells)) w' := by
      intro cells hb w'
      simp only [execOp, ho]
      exact run_value _ _ _ (run_build w' t _ cells hb)
    have hlist : (parts.map fun (i, x) => (i, a.eval x)).toList = parts.toList.map fun (i, x) => (i, a.eval x) := by simp
    split at h
    · rename_i l hs
      split at h
      · rename_i cs hf
        simp only [Option.some.injEq, Prod.mk.injEq] at h
        obtain ⟨rfl, rfl⟩ := h
        obtain ⟨h1, h2⟩ := getPs_sound H hg hps hv
        have ht := hT.of_sh hs (by simp)
        obtain ⟨inf, z, hinf, hsz, _, hz, hzc, hzs⟩ := ht.info
        obtain ⟨d, hd, hsh⟩ := und_of hT hs (by simp)
        cases d <;> first | (simp only [shOk] at hsh; done) | skip
        rename_i fields
        have hfo : fieldOff (cx.tt t) = listAt l := by funext i; simp [fieldOff, hs]
        rw [hfo] at hf
        obtain ⟨res, hr, hrd, _⟩ := fillC_sound (d := CV.den ρ S w) (place := (l.toArray[·]?)) (fun i o n hh => by rw [listAt_eq] at hh; simpa using hh) ps (parts.toList.map fun (i, x) => (i, a.eval x))
          (cx.tt t).zero z.cells cs hf (zero_den hzc) (by simp [h1]) (fun k p v hp hv' => by
            rw [List.getElem?_map] at hv'
            cases hx : parts.toList[k]? with
            | none => simp [hx] at hv'
            | some x =>
              simp only [hx, Option.map_some, Option.some.injEq] at hv'
              subst hv'
              exact h2 k p x hp hx)
          (fun i o n hh => by
            rw [hzs]
            exact ht.fits l hs (o, n) (by rw [listAt_eq] at hh; exact List.mem_of_getElem? hh))
        refine ⟨.agg res, ⟨res, rfl, hrd⟩, hrun res ?_⟩
        rw [hlist]
        simp only [Program.built, hinf, hd, hz, hsh.1]
        exact hr
      · cases h
    · rename_i m e hs
      split at h
      · rename_i cs hk hf
        simp only [Option.some.injEq, Prod.mk.injEq] at h
        obtain ⟨rfl, rfl⟩ := h
        obtain ⟨h1, h2⟩ := getPs_sound H hg hps hv
        have ht := hT.of_sh hs (by simp)
        obtain ⟨inf, z, hinf, hsz, _, hz, hzc, hzs⟩ := ht.info
        obtain ⟨ie, _, hie, hisz, _⟩ := (hT.of_known hk).info
        obtain ⟨d, hd, hsh⟩ := und_of hT hs (by simp)
        cases d <;> first | (simp only [shOk] at hsh; done) | skip
        rename_i m' e'
        obtain ⟨e1, e2⟩ := hsh
        rw [e1, e2] at hd
        obtain ⟨res, hr, hrd, _⟩ := fillC_sound (d := CV.den ρ S w) (place := fun i => some (i * ie.size, ie.size)) (fun i o n hh => by
            split at hh
            · rw [hisz]; exact hh
            · cases hh) ps (parts.toList.map fun (i, x) => (i, a.eval x))
          (cx.tt t).zero z.cells cs hf (zero_den hzc) (by simp [h1]) (fun k p v hp hv' => by
            rw [List.getElem?_map] at hv'
            cases hx : parts.toList[k]? with
            | none => simp [hx] at hv'
            | some x =>
              simp only [hx, Option.map_some, Option.some.injEq] at hv'
              subst hv'
              exact h2 k p x hp hx)
          (fun i o n hh => by
            split at hh
            · rename_i hlt
              simp only [Option.some.injEq, Prod.mk.injEq] at hh
              obtain ⟨rfl, rfl⟩ := hh
              have := ht.arr m e ie hs hie
              rw [hisz] at this
              have h3 : (i + 1) * (cx.tt e).size ≤ m * (cx.tt e).size := Nat.mul_le_mul_right _ hlt
              rw [Nat.add_mul, Nat.one_mul] at h3
              omega
            · cases hh)
        refine ⟨.agg res, ⟨res, rfl, hrd⟩, hrun res ?_⟩
        rw [hlist]
        simp only [Program.built, hinf, hd, hz, hie]
        exact hr
      · cases h
    · cases h

/-- A pure operation gives its value, in whatever world. -/
theorem pureOp_sound (H : Sat F cx ρ S st a w) (hT : TTok F.P cx.tt) {g : GC} {vc : List Prop} {r : RV} (o : Oper)
    (h : pureOp cx st g o.op = some (vc, r)) (hv : allOf vc) (hg : g.wants = true) : Gives F a o (r.den ρ S w) := by
  cases ho : o.op <;> rw [ho] at h
  case move x => exact pure_move H h hv hg o (.inl ho)
  case assign x => exact pure_move H (x := x) (by simpa only [pureOp] using h) hv hg o (.inr ho)
  case binOp => exact pure_binOp H hT h hv hg o ho
  case unOp => exact pure_unOp H h hv hg o ho
  case pick => exact pure_pick H h hv hg o ho
  case convert => exact pure_convert H hT h hv hg o ho
  case index => exact pure_index H hT h hv hg o ho
  case extract => exact pure_extract H h hv hg o ho
  case nilCheck => exact pure_nilCheck H h hv hg o ho
  case fieldAddr => exact pure_fieldAddr H hT h hv hg o ho
  case indexAddr => exact pure_indexAddr H hT h hv hg o ho
  case slice t x lo hi mx =>
    cases mx with
    | none => exact pure_slice H hT h hv hg o ho
    | some _ => simp [pureOp] at h
  case build => exact pure_build H hT h hv hg o ho
  case call c =>
    obtain ⟨callee, args, ts⟩ := c
    cases callee with
    | value f => simp [pureOp] at h
    | invoke r m => simp [pureOp] at h
    | builtin b =>
      cases b <;> first | (simp [pureOp] at h; done) | exact pure_len H hT h hv hg o ho
  all_goals simp [pureOp] at h
end
end Go.Sx
namespace Go.Sx
open Go

section
variable {F : Fx} {cx : Cx} {ρ : Env} {S : Nat → Prop} {st : SS} {a : Act} {w : World}

theorem eta_den {k : CK} {c : CV} {v : Value} (hf : k.fits c = true) (h : c.den ρ S w v) : (k.eta c).den ρ S w v := by
  cases k <;> cases c <;> simp only [CK.fits, Bool.false_eq_true] at hf <;> first | exact h | skip
  rename_i k n k'
  rw [ikEq_iff] at hf
  subst hf
  exact h

theorem etas_den : ∀ {ks : List CK} {cs : List CV} {us : List Value}, allOf (fitss ks cs) → denL (CV.den ρ S w) cs us → denL (CV.den ρ S w) (etas ks cs) us
  | [], [], [], _, _ => trivial
  | [], [], _ :: _, _, h => h.elim
  | [], _ :: _, _, h, _ => h.1.elim
  | _ :: _, [], _, h, _ => h.1.elim
  | _ :: _, _ :: _, [], _, h => h.elim
  | _ :: _, _ :: _, _ :: _, h, h' => ⟨eta_den h.1 h'.1, etas_den h.2 h'.2⟩

theorem cellsFrom_den {d : CV → Value → Prop} {g : Nat → CV} {cell : Nat → Option Value} : ∀ (n o : Nat), (∀ j, o ≤ j → j < o + n → ∃ u, cell j = some u ∧ d (g j) u) →
    ∃ us, denL d (cellsFrom g o n) us ∧ us.length = n ∧ ∀ j u, us[j]? = some u → cell (o + j) = some u
  | 0, o, _ => ⟨[], trivial, rfl, fun j u h => by simp at h⟩
  | n + 1, o, h => by
    obtain ⟨u, hu, hd⟩ := h o (Nat.le_refl _) (by omega)
    obtain ⟨us, h1, h2, h3⟩ := cellsFrom_den (d := d) (g := g) (cell := cell) n (o + 1) (fun j h1 h2 => h j (by omega) (by omega))
    refine ⟨u :: us, ⟨hd, h1⟩, by simp [h2], fun j x hx => ?_⟩
    cases j with
    | zero => simp only [List.getElem?_cons_zero, Option.some.injEq] at hx; subst hx; exact hu
    | succ j =>
      have := h3 j x (by simpa using hx)
      rw [show o + (j + 1) = o + 1 + j by omega]; exact this

theorem run_isAgg {P : Program} {t : TypeId} {d : TypeDesc} (h : P.underlying t = some d) (w' : World) : (isAgg t).run P w' = .ok (isAggD d) w' := by
  cases d <;> simp [isAgg, run_underlying h, isAggD]

theorem run_loadAt {P : Program} {t : TypeId} {ti : TI} (ht : TIok P t ti) (w' : World) (b off : Nat) (us : List Value) (hl : us.length = ti.size)
    (hc : ∀ j u, us[j]? = some u → w'.cell? ⟨b, off + j, none⟩ = some u) (v : Value) (hv : (ti.agg = true ∧ v = .agg us.toArray) ∨ (ti.agg = false ∧ us = [v])) :
    (Instr.loadAt t (.pointer (some ⟨b, off, none⟩))).run P w' = .ok v w' := by
  obtain ⟨d, hd, _, ha⟩ := ht.und
  obtain ⟨inf, z, hinf, hsz, _⟩ := ht.info
  rcases hv with ⟨h1, rfl⟩ | ⟨h1, rfl⟩
  · have := run_loadCells_list (P := P) w' ⟨b, off, none⟩ us (fun j u hu => by rw [add_none]; exact hc j u hu)
    rw [hl, ← hsz] at this
    simp [Instr.loadAt, Instr.sureAddr, loadVar, run_isAgg hd, ha, h1, sizeOf, typeInfo, hinf, this]
  · have := hc 0 v rfl
    simp only [Nat.add_zero] at this
    simp [Instr.loadAt, Instr.sureAddr, loadVar, run_isAgg hd, ha, h1, load, Sem.run, this]

theorem val_den {ti : TI} {cs : List CV} {r : RV} {us : List Value} (h : ti.val cs = some r) (hf : allOf (fitss ti.kinds cs)) (hd : denL (CV.den ρ S w) cs us) :
    ∃ v, r.den ρ S w v ∧ ((ti.agg = true ∧ v = .agg us.toArray) ∨ (ti.agg = false ∧ us = [v])) := by
  unfold TI.val at h
  split at h
  · rename_i ha
    simp only [Option.some.injEq] at h; subst h
    exact ⟨_, ⟨us.toArray, rfl, by simpa using etas_den hf hd⟩, .inl ⟨ha, rfl⟩⟩
  · rename_i ha
    split at h
    · rename_i k c hk
      simp only [Option.some.injEq] at h; subst h
      rw [hk] at hf
      match us, hd with
      | [v], hd => exact ⟨v, eta_den hf.1 hd.1, .inr ⟨ha, rfl⟩⟩
    · cases h

theorem val_known (hT : TTok F.P cx.tt) {t : TypeId} {cs : List CV} {r : RV} (h : (cx.tt t).val cs = some r) : TIok F.P t (cx.tt t) := by
  have := hT t
  by_cases hk : (cx.tt t).known = true
  · exact hT.of_known hk
  · rw [if_neg hk] at this
    rw [this] at h
    simp [TI.val] at h

/-- What is asked of a load: its value, in each world that holds the old blocks. -/
def Reads (F : Fx) (a : Act) (w : World) (o : Oper) (d : Value → Prop) : Prop :=
  ∃ v, d v ∧ ∀ w', (∀ b, b < w.heap.size → w'.heap[b]? = w.heap[b]?) → (execOp a.eval o).run F.P w' = .ok (.value v) w'

theorem cell_same {w' : World} (h : ∀ b, b < w.heap.size → w'.heap[b]? = w.heap[b]?) {b o : Nat} {u : Value} (hu : w.cell? ⟨b, o, none⟩ = some u) : w'.cell? ⟨b, o, none⟩ = some u := by
  have hb := World.block_lt_of_cell? w ⟨b, o, none⟩ hu
  rw [World.cell?_of_block (w := w) (h b hb)]
  exact hu

theorem load_gives (hT : TTok F.P cx.tt) {t : TypeId} {x : Operand} {o : Oper} (ho : o.op = .load t x) {cs : List CV} {r : RV} (hval : (cx.tt t).val cs = some r) (hf : allOf (fitss (cx.tt t).kinds cs))
    {b off : Nat} (hx : a.eval x = .pointer (some ⟨b, off, none⟩)) {us : List Value} (hd : denL (CV.den ρ S w) cs us) (hl : us.length = (cx.tt t).size)
    (hc : ∀ j u, us[j]? = some u → w.cell? ⟨b, off + j, none⟩ = some u) : Reads F a w o (r.den ρ S w) := by
  obtain ⟨v, hv, hv'⟩ := val_den hval hf hd
  refine ⟨v, hv, fun w' hw => ?_⟩
  simp only [execOp, ho]
  refine run_value _ _ _ ?_
  rw [hx]
  exact run_loadAt (val_known hT hval) w' b off us hl (fun j u hu => cell_same hw (hc j u hu)) v hv'

theorem den_of_den0 {c : CV} {v : Value} (h : c.den0 S w v) : c.den ρ S w v := by
  cases c <;> first | exact h | exact h.elim

theorem cells_length {ch : Chunk} {h : Nat} (H : Mem F ρ S w st.chunks) (hl : look st.chunks h = some ch) : h < ρ.nx := (H.sat h ch hl).1

theorem loadOp_sound (H : Sat F cx ρ S st a w) (hT : TTok F.P cx.tt) {g : GC} {vc : List Prop} {r : RV} (o : Oper)
    (h : loadOp cx st g o.op = some (vc, r)) (hv : allOf vc) (hg : g.wants = true) : Reads F a w o (r.den ρ S w) := by
  unfold loadOp at h
  split at h
  · rename_i t x ho
    split at h
    · rename_i hh off n1 hx
      split at h
      · rename_i ct cs hl
        split at h
        · rename_i v hval
          simp only [Option.some.injEq, Prod.mk.injEq] at h
          obtain ⟨rfl, rfl⟩ := h
          rw [allOf_cat] at hv
          obtain ⟨hv1, hv2, hv3⟩ := hv
          obtain ⟨_, b, hb, hx'⟩ := getV_den H hx hv1 hg
          obtain ⟨_, b', vs, hb', hheap, hden⟩ := H.mem.sat _ _ hl
          rw [hb] at hb'
          simp only [Option.some.injEq] at hb'
          subst hb'
          rw [len'_eq] at hv2
          obtain ⟨us, h1, h2, h3⟩ := cellsFrom_den (d := CV.den ρ S w) (g := nth cs) (cell := fun j => w.cell? ⟨b, j, none⟩) (cx.tt t).size off (fun j h1 h2 => by
            obtain ⟨u, hu, hd⟩ := denL_nth hden (show j < cs.length by omega)
            exact ⟨u, cell_of_heap hheap (by simpa using hu), hd⟩)
          exact load_gives hT ho hval hv3 hx' h1 h2 h3
        · cases h
      · cases h
    · rename_i sz m f i j n1 hx
      split at h
      · rename_i v hval
        simp only [Option.some.injEq, Prod.mk.injEq] at h
        obtain ⟨rfl, rfl⟩ := h
        rw [allOf_cat] at hv
        obtain ⟨hv1, hv2, hv3, hv4⟩ := hv
        obtain ⟨b, off, hx', hb, hc⟩ := getV_den H hx hv1 hg
        have hi := GC.of_imp hv2 hg
        obtain ⟨us, h1, h2, h3⟩ := cellsFrom_den (d := CV.den ρ S w) (g := f i) (cell := fun j => w.cell? ⟨b, off + i * sz + j, none⟩) (cx.tt t).size j (fun k h1 h2 => by
          obtain ⟨u, hu, hd⟩ := hc i k hi (by omega)
          exact ⟨u, hu, den_of_den0 hd⟩)
        exact load_gives hT ho hval hv4 hx' h1 h2 (fun k u hu => by rw [Nat.add_assoc]; exact h3 k u hu)
      · cases h
    · rename_i hh sz i j n1 hx
      split at h
      · rename_i ct sz' m f hl
        split at h
        · rename_i v hval
          simp only [Option.some.injEq, Prod.mk.injEq] at h
          obtain ⟨rfl, rfl⟩ := h
          rw [allOf_cat] at hv
          obtain ⟨hv1, hv2, hv2', hv3, hv4⟩ := hv
          subst hv2'
          obtain ⟨_, b, hb, hx'⟩ := getV_den H hx hv1 hg
          have hi := GC.of_imp hv2 hg
          obtain ⟨_, hs⟩ := H.mem.sat _ _ hl
          rcases hs with ⟨_, _, rfl⟩ | ⟨b', hb', vs, cap, _, _, _, hheap, _, _, hcell⟩
          · omega
          rw [hb] at hb'
          simp only [Option.some.injEq] at hb'
          subst hb'
          obtain ⟨us, h1, h2, h3⟩ := cellsFrom_den (d := CV.den ρ S w) (g := f i) (cell := fun j => w.cell? ⟨b, i * sz' + j, none⟩) (cx.tt t).size j (fun k h1 h2 => by
            obtain ⟨u, hu, hd⟩ := hcell i k hi (by omega)
            exact ⟨u, cell_of_heap hheap hu, den_of_den0 hd⟩)
          exact load_gives hT ho hval hv4 hx' h1 h2 (fun k u hu => by rw [Nat.add_assoc]; exact h3 k u hu)
        · cases h
      · cases h
    · cases h
  · cases h
end
end Go.Sx
namespace Go.Sx
open Go

theorem look_chg {α : Type} : ∀ (l : List (Nat × α)) (h : Nat) (x y : α) (k : Nat), look l h = some y → look (chg l h x) k = if h = k then some x else look l k
  | [], _, _, _, _, e => by cases e
  | (i, v) :: r, h, x, y, k, e => by
    simp only [chg]
    rw [look_cons] at e
    by_cases hi : i = h
    · subst hi
      simp only [beq_self_eq_true, cond_true, look_cons]
      by_cases hk : i = k <;> simp [hk]
    · rw [if_neg hi] at e
      have : (i == h) = false := by simpa using hi
      simp only [this, cond_false, look_cons]
      rw [look_chg r h x y k e]
      by_cases hk : i = k
      · subst hk; simp [Ne.symm hi]
      · simp [hk]

theorem look_del {α : Type} : ∀ (l : List (Nat × α)) (h k : Nat), look (del l h) k = if h = k then none else look l k
  | [], _, _ => by simp [del, look]
  | (i, v) :: r, h, k => by
    simp only [del]
    by_cases hi : i = h
    · subst hi
      simp only [beq_self_eq_true, cond_true, look_cons]
      rw [look_del r i k]
      by_cases hk : i = k <;> simp [hk]
    · have : (i == h) = false := by simpa using hi
      simp only [this, cond_false, look_cons]
      rw [look_del r h k]
      by_cases hk : i = k
      · subst hk; simp [Ne.symm hi]
      · simp [hk]

section
variable {F : Fx} {cx : Cx} {ρ : Env} {S : Nat → Prop} {st : SS} {a : Act} {w : World} {chunks : List (Nat × Chunk)}

theorem chunkSat_ext {ρ' : Env} {S' : Nat → Prop} {w' : World} (e : Ext ρ S w ρ' S' w') {h : Nat} {ch : Chunk} (hh : h < ρ.nx) (hb : ∀ b, ρ.blk h = some b → w'.heap[b]? = w.heap[b]?)
    (hs : chunkSat ρ S w h ch) : chunkSat ρ' S' w' h ch := by
  cases ch with
  | cells t cs =>
    obtain ⟨b, vs, h1, h2, h3⟩ := hs
    exact ⟨b, vs, (e.blk h hh).trans h1, (hb b h1).trans h2, denL_mono (CV.den_ext e) _ _ h3⟩
  | iter s p =>
    obtain ⟨b, h1, h2⟩ := hs
    exact ⟨b, (e.blk h hh).trans h1, (hb b h1).trans h2⟩
  | row t sz n f =>
    rcases hs with ⟨h1, h2, h3⟩ | ⟨b, h1, vs, cap, h2, h3, h4, h5, h6, h7, h8⟩
    · exact .inl ⟨(e.blk h hh).trans h1, (e.sl h hh).trans h2, h3⟩
    · refine .inr ⟨b, (e.blk h hh).trans h1, vs, cap, (e.sl h hh).trans h2, h3, h4, (hb b h1).trans h5, h6, h7, fun i j hi hj => ?_⟩
      obtain ⟨u, hu, hd⟩ := h8 i j hi hj
      exact ⟨u, hu, CV.den0_ext e.sub e.heap _ _ hd⟩

/-- A new handle. -/
def Env.push (ρ : Env) (b : Option Nat) (v : Value) : Env :=
  ⟨ρ.nx + 1, fun h => if h = ρ.nx then b else ρ.blk h, fun h => if h = ρ.nx then v else ρ.sl h⟩

/-- A world with one block more. -/
structure Pushed (w w' : World) (o : Obj) : Prop where
  os : w'.os = w.os
  tape : w'.tape = w.tape
  output : w'.output = w.output
  heap : w'.heap = w.heap.push o

theorem Pushed.old {w' : World} {o : Obj} (h : Pushed w w' o) {b : Nat} (hb : b < w.heap.size) : w'.heap[b]? = w.heap[b]? := by
  rw [h.heap, Array.getElem?_push, if_neg (by omega)]
theorem Pushed.new {w' : World} {o : Obj} (h : Pushed w w' o) : w'.heap[w.heap.size]? = some o := by
  rw [h.heap, Array.getElem?_push, if_pos rfl]
theorem Pushed.size {w' : World} {o : Obj} (h : Pushed w w' o) : w'.heap.size = w.heap.size + 1 := by rw [h.heap, Array.size_push]

theorem Ext.push (H : Mem F ρ S w chunks) {w' : World} (hw : ∀ b, b < w.heap.size → w'.heap[b]? = w.heap[b]?) (b : Option Nat) (v : Value) : Ext ρ S w (ρ.push b v) S w' where
  nx := by simp [Env.push]
  blk := fun h hh => by simp [Env.push, Nat.ne_of_lt hh]
  sl := fun h hh => by simp [Env.push, Nat.ne_of_lt hh]
  sub := fun _ h => h
  heap := fun b hb => hw b (H.ro b hb).1

theorem Mem.blk_lt (H : Mem F ρ S w chunks) {h : Nat} {ch : Chunk} {b : Nat} (hl : look chunks h = some ch) (hb : ρ.blk h = some b) : b < w.heap.size := by
  obtain ⟨_, hs⟩ := H.sat h ch hl
  cases ch with
  | cells t cs =>
    obtain ⟨b', vs, h1, h2, _⟩ := hs
    rw [hb] at h1
    simp only [Option.some.injEq] at h1
    subst h1
    exact (Array.getElem?_eq_some_iff.1 h2).1
  | iter s p =>
    obtain ⟨b', h1, h2⟩ := hs
    rw [hb] at h1
    simp only [Option.some.injEq] at h1
    subst h1
    exact (Array.getElem?_eq_some_iff.1 h2).1
  | row t sz n f =>
    rcases hs with ⟨h1, _⟩ | ⟨b', h1, vs, cap, _, _, _, h5, _⟩
    · rw [hb] at h1; cases h1
    · rw [hb] at h1
      simp only [Option.some.injEq] at h1
      subst h1
      exact (Array.getElem?_eq_some_iff.1 h5).1

/-- A new block is a new chunk. -/
theorem Mem.push (H : Mem F ρ S w chunks) {w' : World} {o : Obj} (hw : Pushed w w' o) {v : Value} {ch : Chunk} (hch : chunkSat (ρ.push (some w.heap.size) v) S w' ρ.nx ch) :
    Mem F (ρ.push (some w.heap.size) v) S w' ((ρ.nx, ch) :: chunks) := by
  have e := Ext.push H (fun b hb => hw.old hb) (some w.heap.size) v
  have hnew : ∀ h, (if ρ.nx = h then some ch else look chunks h) = look ((ρ.nx, ch) :: chunks) h := fun h => (look_cons _ _ _ _).symm
  have hs0 := H.size
  refine ⟨hw.os.trans H.os, hw.tape.trans H.tape, hw.output.trans H.output, by rw [hw.size]; omega, H.ext.trans e, fun b hb => ?_, fun b hb => ?_, fun h c hl => ?_, fun h c b hl hb => ?_, fun h h' c c' b hl hl' hb hb' => ?_⟩
  · exact (hw.old (Nat.lt_of_lt_of_le (F.hFr b hb) hs0)).trans (H.fr b hb)
  · exact ⟨by rw [hw.size]; have := (H.ro b hb).1; omega, (H.ro b hb).2⟩
  · rw [← hnew] at hl
    by_cases hh : ρ.nx = h
    · subst hh
      simp only [if_true, Option.some.injEq] at hl
      subst hl
      exact ⟨by simp [Env.push], hch⟩
    · rw [if_neg hh] at hl
      obtain ⟨h1, h2⟩ := H.sat h c hl
      exact ⟨by simp [Env.push]; omega, chunkSat_ext e h1 (fun b hb => hw.old (H.blk_lt hl hb)) h2⟩
  · rw [← hnew] at hl
    by_cases hh : ρ.nx = h
    · subst hh
      simp only [Env.push, if_true, Option.some.injEq] at hb
      subst hb
      exact ⟨fun hS => Nat.lt_irrefl _ (H.ro _ hS).1, fun hF => Nat.lt_irrefl _ (Nat.lt_of_lt_of_le (F.hFr _ hF) hs0)⟩
    · rw [if_neg hh] at hl
      rw [e.blk h (H.sat h c hl).1] at hb
      exact H.own h c b hl hb
  · rw [← hnew] at hl hl'
    by_cases hh : ρ.nx = h <;> by_cases hh' : ρ.nx = h'
    · exact hh.symm.trans hh'
    · subst hh
      rw [if_neg hh'] at hl'
      simp only [Env.push, if_true, Option.some.injEq] at hb
      subst hb
      rw [e.blk h' (H.sat h' c' hl').1] at hb'
      exact absurd (H.blk_lt hl' hb') (Nat.lt_irrefl _)
    · subst hh'
      rw [if_neg hh] at hl
      simp only [Env.push, if_true, Option.some.injEq] at hb'
      subst hb'
      rw [e.blk h (H.sat h c hl).1] at hb
      exact absurd (H.blk_lt hl hb) (Nat.lt_irrefl _)
    · rw [if_neg hh] at hl
      rw [if_neg hh'] at hl'
      rw [e.blk h (H.sat h c hl).1] at hb
      rw [e.blk h' (H.sat h' c' hl').1] at hb'
      exact H.apart h h' c c' b hl hl' hb hb'

/-- Fewer chunks. -/
theorem Mem.less (H : Mem F ρ S w chunks) (h : Nat) : Mem F ρ S w (del chunks h) := by
  have key : ∀ k c, look (del chunks h) k = some c → look chunks k = some c := fun k c hl => by
    rw [look_del] at hl
    split at hl
    · cases hl
    · exact hl
  exact ⟨H.os, H.tape, H.output, H.size, H.ext, H.fr, H.ro, fun k c hl => H.sat k c (key k c hl), fun k c b hl => H.own k c b (key k c hl),
    fun k k' c c' b hl hl' => H.apart k k' c c' b (key k c hl) (key k' c' hl')⟩

/-- A block of one's own is written. -/
theorem Mem.setRow (H : Mem F ρ S w chunks) {h : Nat} {ch ch' : Chunk} (hl : look chunks h = some ch) {b : Nat} (hb : ρ.blk h = some b) {new : Array Value}
    (hch : chunkSat ρ S (w.setRow b new) h ch') : Mem F ρ S (w.setRow b new) (chg chunks h ch') ∧ Ext ρ S w ρ S (w.setRow b new) := by
  obtain ⟨hnS, hnF⟩ := H.own h ch b hl hb
  have e : Ext ρ S w ρ S (w.setRow b new) := ⟨Nat.le_refl _, fun _ _ => rfl, fun _ _ => rfl, fun _ h => h, fun k hk => setRow_other w b k new (fun e => hnS (e ▸ hk))⟩
  have hsize : (w.setRow b new).heap.size = w.heap.size := setRow_size w b new
  have hchg : ∀ k c, look (chg chunks h ch') k = some c → (k = h ∧ c = ch') ∨ (k ≠ h ∧ look chunks k = some c) := fun k c hk => by
    rw [look_chg chunks h ch' ch k hl] at hk
    by_cases e : h = k
    · subst e
      simp only [if_true, Option.some.injEq] at hk
      exact .inl ⟨rfl, hk.symm⟩
    · rw [if_neg e] at hk
      exact .inr ⟨Ne.symm e, hk⟩
  have hold : ∀ k c, look (chg chunks h ch') k = some c → ∃ c0, look chunks k = some c0 := fun k c hk => by
    rcases hchg k c hk with ⟨rfl, _⟩ | ⟨_, hk⟩
    · exact ⟨_, hl⟩
    · exact ⟨_, hk⟩
  refine ⟨⟨H.os, H.tape, H.output, by rw [hsize]; exact H.size, H.ext.trans e, fun k hk => ?_, fun k hk => ?_, fun k c hk => ?_, fun k c b' hk hb' => ?_, fun k k' c c' b' hk hk' hb' hb'' => ?_⟩, e⟩
  · rw [setRow_other w b k new (fun e => hnF (e ▸ hk))]; exact H.fr k hk
  · rw [hsize]; exact H.ro k hk
  · rcases hchg k c hk with ⟨rfl, rfl⟩ | ⟨hne, hk⟩
    · exact ⟨(H.sat _ _ hl).1, hch⟩
    · obtain ⟨h1, h2⟩ := H.sat k c hk
      exact ⟨h1, chunkSat_ext e h1 (fun b' hb' => setRow_other w b b' new (fun e => hne (H.apart k h c ch b' hk hl hb' (e ▸ hb)))) h2⟩
  · obtain ⟨c0, hk0⟩ := hold k c hk
    exact H.own k c0 b' hk0 hb'
  · obtain ⟨c0, hk0⟩ := hold k c hk
    obtain ⟨c1, hk1⟩ := hold k' c' hk'
    exact H.apart k k' c0 c1 b' hk0 hk1 hb' hb''

/-- A block's content is another one. -/
theorem Mem.upd (H : Mem F ρ S w chunks) {h : Nat} {ch ch' : Chunk} (hl : look chunks h = some ch) {b : Nat} (hb : ρ.blk h = some b) {w' : World} (hos : w'.os = w.os) (htp : w'.tape = w.tape) (hout : w'.output = w.output)
    (hsize : w'.heap.size = w.heap.size) (hoth : ∀ k, k ≠ b → w'.heap[k]? = w.heap[k]?) (hch : chunkSat ρ S w' h ch') : Mem F ρ S w' (chg chunks h ch') ∧ Ext ρ S w ρ S w' := by
  obtain ⟨hnS, hnF⟩ := H.own h ch b hl hb
  have e : Ext ρ S w ρ S w' := ⟨Nat.le_refl _, fun _ _ => rfl, fun _ _ => rfl, fun _ h => h, fun k hk => hoth k (fun e => hnS (e ▸ hk))⟩
  have hchg : ∀ k c, look (chg chunks h ch') k = some c → (k = h ∧ c = ch') ∨ (k ≠ h ∧ look chunks k = some c) := fun k c hk => by
    rw [look_chg chunks h ch' ch k hl] at hk
    by_cases e : h = k
    · subst e
      simp only [if_true, Option.some.injEq] at hk
      exact .inl ⟨rfl, hk.symm⟩
    · rw [if_neg e] at hk
      exact .inr ⟨Ne.symm e, hk⟩
  have hold : ∀ k c, look (chg chunks h ch') k = some c → ∃ c0, look chunks k = some c0 := fun k c hk => by
    rcases hchg k c hk with ⟨rfl, _⟩ | ⟨_, hk⟩
    · exact ⟨_, hl⟩
    · exact ⟨_, hk⟩
  refine ⟨⟨hos.trans H.os, htp.trans H.tape, hout.trans H.output, by rw [hsize]; exact H.size, H.ext.trans e, fun k hk => ?_, fun k hk => ?_, fun k c hk => ?_, fun k c b' hk hb' => ?_, fun k k' c c' b' hk hk' hb' hb'' => ?_⟩, e⟩
  · rw [hoth k (fun e => hnF (e ▸ hk))]; exact H.fr k hk
  · rw [hsize]; exact H.ro k hk
  · rcases hchg k c hk with ⟨rfl, rfl⟩ | ⟨hne, hk⟩
    · exact ⟨(H.sat _ _ hl).1, hch⟩
    · obtain ⟨h1, h2⟩ := H.sat k c hk
      exact ⟨h1, chunkSat_ext e h1 (fun b' hb' => hoth b' (fun e => hne (H.apart k h c ch b' hk hl hb' (e ▸ hb)))) h2⟩
  · obtain ⟨c0, hk0⟩ := hold k c hk
    exact H.own k c0 b' hk0 hb'
  · obtain ⟨c0, hk0⟩ := hold k c hk
    obtain ⟨c1, hk1⟩ := hold k' c' hk'
    exact H.apart k k' c0 c1 b' hk0 hk1 hb' hb''
end
end Go.Sx
namespace Go.Sx
open Go

section
variable {F : Fx} {cx : Cx} {ρ : Env} {S : Nat → Prop} {st : SS} {a : Act} {w : World}

/-- What is asked of an operation that turns memory. -/
def Turns (F : Fx) (a : Act) (w : World) (ρ : Env) (S : Nat → Prop) (o : Oper) (v : TV) (ch : List (Nat × Chunk)) (n : Nat) : Prop :=
  ∃ (nx : Next) (u : Value) (w' : World) (ρ' : Env), (execOp a.eval o).run F.P w = .ok nx w' ∧ (nx = .value u ∨ (nx = .skip ∧ u = undef)) ∧ Mem F ρ' S w' ch ∧ Ext ρ S w ρ' S w' ∧ ρ'.nx = ρ.nx + n ∧
    v.den ρ' S w' u

theorem alloc_pushed (w : World) (o : Obj) : Pushed w (w.alloc o) o := ⟨rfl, rfl, rfl, rfl⟩
theorem drew_pushed (w : World) (o : Obj) : Pushed w (w.drew.alloc o) o := ⟨rfl, rfl, rfl, rfl⟩

/-- A new variable. -/
theorem new_cells (H : Sat F cx ρ S st a w) {o : Oper} {t : TypeId} {z : Value} {cs : List CV} (hd : denL (CV.den ρ S w) cs z.cells.toList)
    (hrun : (execOp a.eval o).run F.P w = .ok (.value (.pointer (some ⟨w.heap.size, 0, none⟩))) (w.alloc (.cells z.cells t))) :
    Turns F a w ρ S o (.r (.c (.ref st.next 0))) ((st.next, .cells t cs) :: st.chunks) 1 := by
  have hp := alloc_pushed w (.cells z.cells t)
  have e := Ext.push H.mem (fun b hb => hp.old hb) (some w.heap.size) undef
  have hm := H.mem.push hp (v := undef) (ch := .cells t cs) ⟨w.heap.size, z.cells, by simp [Env.push], hp.new, denL_mono (CV.den_ext e) _ _ hd⟩
  rw [H.nxt] at hm
  exact ⟨_, _, _, _, hrun, .inl rfl, hm, e, rfl, by simp [Env.push, H.nxt], w.heap.size, by simp [Env.push, H.nxt], rfl⟩

theorem run_alloc {P : Program} {t : TypeId} {inf : TypeInfo} {z : Value} (hi : P.info? t = some inf) (hz : inf.zero = some z) (w : World) :
    (Instr.alloc t true (.tuple #[])).run P w = .ok (.pointer (some ⟨w.heap.size, 0, none⟩)) (w.alloc (.cells z.cells t)) := by
  simp [Instr.alloc, zeroValue, typeInfo, hi, hz, newVar, newRow]

theorem mem_alloc (H : Sat F cx ρ S st a w) (hT : TTok F.P cx.tt) {t : TypeId} (o : Oper) (ho : o.op = .alloc t) (hk : (cx.tt t).known = true) :
    Turns F a w ρ S o (.r (.c (.ref st.next 0))) ((st.next, .cells t (cx.tt t).zero) :: st.chunks) 1 := by
  obtain ⟨inf, z, hinf, _, _, hz, hzc, _⟩ := (hT.of_known hk).info
  refine new_cells H (z := z) (zero_den hzc) ?_
  simp only [execOp, ho]
  simp [run_alloc hinf hz]

theorem mem_box (H : Sat F cx ρ S st a w) {t : TypeId} {x : Operand} {v : RV} {n : List Prop} (o : Oper) (ho : o.op = .box t x) (hx : getV cx st .always x = .v v n) (hv : allOf n) :
    Turns F a w ρ S o (.r (.c (.ref st.next 0))) ((st.next, .cells t v.cells) :: st.chunks) 1 := by
  refine new_cells H (z := a.eval x) (RV.cells_den (getV_den H hx hv rfl)) ?_
  simp only [execOp, ho]
  simp [Instr.box, newVar, newRow]

theorem denL_oneCell : ∀ {cs : List CV} {us : List Value}, denL (CV.den ρ S w) cs us → ∀ u ∈ us, u.oneCell' = true
  | [], [], _, u, h => by cases h
  | [], _ :: _, h, _, _ => h.elim
  | _ :: _, [], h, _, _ => h.elim
  | _ :: _, x :: us, h, u, hu => by
    rcases List.mem_cons.1 hu with rfl | hu
    · exact den_oneCell h.1
    · exact denL_oneCell h.2 u hu

theorem run_storeAt {P : Program} {t : TypeId} {ti : TI} (ht : TIok P t ti) (w : World) (b off : Nat) (u : Value) (hsz : u.cells.size = ti.size) (h1 : ∀ x ∈ u.cells.toList, x.oneCell' = true)
    {cur : Array Value} {ct : TypeId} (hg : w.heap[b]? = some (.cells cur ct (0, 0))) (hle : off + u.cells.size ≤ cur.size) :
    (Instr.storeAt t (.pointer (some ⟨b, off, none⟩)) u).run P w = .ok () (w.setRow b (setV cur.toList off u.cells.toList).toArray) := by
  obtain ⟨inf, z, hinf, hs, _⟩ := ht.info
  have := run_storeCells_at P b off ct u.cells.toList 0 cur w hg (by simpa using hle) h1
  simp only [Nat.add_zero] at this
  rw [setV_eq _ _ _ (by simpa using hle)]
  simp [Instr.storeAt, Instr.sureAddr, storeVar, sizeOf, typeInfo, hinf, hs, hsz, this]

theorem mem_store_ref (H : Sat F cx ρ S st a w) {t : TypeId} (hT : TIok F.P t (cx.tt t)) {x y : Operand} {h off : Nat} {v : RV} {n1 n2 : List Prop} {ct : TypeId} {cs : List CV} (o : Oper) (ho : o.op = .store t x y)
    (hx : getV cx st .always x = .v (.c (.ref h off)) n1) (hy : getV cx st .always y = .v v n2) (hl : look st.chunks h = some (.cells ct cs)) (hn1 : allOf n1) (hn2 : allOf n2)
    (hs : len' v.cells = (cx.tt t).size) (hle : off + len' v.cells ≤ len' cs) :
    Turns F a w ρ S o .undef (chg st.chunks h (.cells ct (setFrom cs off v.cells))) 0 := by
  obtain ⟨_, b, hb, hx'⟩ := getV_den H hx hn1 rfl
  have hd := RV.cells_den (getV_den H hy hn2 rfl)
  obtain ⟨_, b', vs, hb', hheap, hden⟩ := H.mem.sat _ _ hl
  rw [hb] at hb'
  simp only [Option.some.injEq] at hb'
  subst hb'
  have hlen := denL_length hd
  have hlen' := denL_length hden
  simp only [Array.length_toList] at hlen hlen'
  rw [len'_eq] at hs hle
  rw [len'_eq] at hle
  have hrun := run_storeAt hT w b off (a.eval y) (by omega) (denL_oneCell hd) hheap (by omega)
  have hd2 := denL_setFrom (o := off) hden hd
  have e0 : Ext ρ S w ρ S (w.setRow b (setV vs.toList off (a.eval y).cells.toList).toArray) :=
    ⟨Nat.le_refl _, fun _ _ => rfl, fun _ _ => rfl, fun _ h => h, fun k hk => setRow_other w b k _ (fun e => (H.mem.own h _ b hl hb).1 (e ▸ hk))⟩
  obtain ⟨hm, e⟩ := H.mem.setRow hl hb (new := (setV vs.toList off (a.eval y).cells.toList).toArray) (ch' := .cells ct (setFrom cs off v.cells))
    ⟨b, _, hb, setRow_heap w b vs _ ct (0, 0) hheap, by simpa using denL_mono (CV.den_ext e0) _ _ hd2⟩
  refine ⟨.skip, undef, _, ρ, ?_, .inr ⟨rfl, rfl⟩, hm, e, rfl, rfl⟩
  simp only [execOp, ho]
  rw [hx']
  simp [hrun]

theorem flats_den0 : ∀ {cs : List CV} {us : List Value}, allOf (flats cs) → denL (CV.den ρ S w) cs us → denL (CV.den0 S w) cs us
  | [], [], _, _ => trivial
  | [], _ :: _, _, h => h.elim
  | _ :: _, [], _, h => h.elim
  | c :: _, _ :: _, h, h' => ⟨by
      have h1 := h.1
      have h2 := h'.1
      cases c <;> first | exact h2 | (simp [CV.flat] at h1; done), flats_den0 h.2 h'.2⟩

theorem setV_get : ∀ (us vs : List Value) (o i : Nat), o + us.length ≤ vs.length → (setV vs o us)[i]? = if o ≤ i ∧ i < o + us.length then us[i - o]? else vs[i]?
  | us, vs, o, i, h => by
    rw [setV_eq us vs o h]
    by_cases h1 : o ≤ i
    · by_cases h2 : i < o + us.length
      · rw [if_pos ⟨h1, h2⟩, List.getElem?_append_left (by simp; omega), List.getElem?_append_right (by simp; omega)]
        congr 1; simp; omega
      · rw [if_neg (by omega), List.getElem?_append_right (by simp; omega), List.getElem?_drop]
        congr 1; simp; omega
    · rw [if_neg (by omega), List.append_assoc, List.getElem?_append_left (by simp; omega), List.getElem?_take, if_pos (by omega)]

theorem mul_add_inj {i j i' j' sz : Nat} (hj : j < sz) (hj' : j' < sz) (h : i * sz + j = i' * sz + j') : i = i' ∧ j = j' := by
  have h1 : (i * sz + j) / sz = (i' * sz + j') / sz := by rw [h]
  have e1 : (i * sz + j) / sz = i := by rw [Nat.mul_comm, Nat.mul_add_div (by omega), Nat.div_eq_of_lt hj]; simp
  have e2 : (i' * sz + j') / sz = i' := by rw [Nat.mul_comm, Nat.mul_add_div (by omega), Nat.div_eq_of_lt hj']; simp
  have : i = i' := by omega
  subst this
  exact ⟨rfl, by omega⟩

theorem mem_store_row (H : Sat F cx ρ S st a w) {t : TypeId} (hT : TIok F.P t (cx.tt t)) {x y : Operand} {h sz i j : Nat} {v : RV} {n1 n2 : List Prop} {ct : TypeId} {m : Nat} {f : Nat → Nat → CV} (o : Oper) (ho : o.op = .store t x y)
    (hx : getV cx st .always x = .v (.c (.rowp h sz i j)) n1) (hy : getV cx st .always y = .v v n2) (hl : look st.chunks h = some (.row ct sz m f)) (hn1 : allOf n1) (hn2 : allOf n2)
    (hs : len' v.cells = (cx.tt t).size) (hi : i < m) (hle : j + len' v.cells ≤ sz) (hflat : allOf (flats v.cells)) :
    Turns F a w ρ S o .undef (chg st.chunks h (.row ct sz m (updR f i j v.cells))) 0 := by
  obtain ⟨_, b, hb, hx'⟩ := getV_den H hx hn1 rfl
  have hd := RV.cells_den (getV_den H hy hn2 rfl)
  obtain ⟨_, hsat⟩ := H.mem.sat _ _ hl
  rcases hsat with ⟨_, _, rfl⟩ | ⟨b', hb', vs, cap, hsl, hcap, hcap', hheap, hvs, hone, hcell⟩
  · omega
  rw [hb] at hb'
  simp only [Option.some.injEq] at hb'
  subst hb'
  have hlen := denL_length hd
  simp only [Array.length_toList] at hlen
  rw [len'_eq] at hs hle
  have hbound : i * sz + j + (a.eval y).cells.size ≤ vs.size := by
    rw [hvs]
    have h3 : (i + 1) * sz ≤ cap * sz := Nat.mul_le_mul_right _ (by omega)
    rw [Nat.add_mul, Nat.one_mul] at h3
    omega
  have hrun := run_storeAt hT w b (i * sz + j) (a.eval y) (by omega) (denL_oneCell hd) hheap hbound
  have hd0 := flats_den0 hflat hd
  have e0 : Ext ρ S w ρ S (w.setRow b (setV vs.toList (i * sz + j) (a.eval y).cells.toList).toArray) :=
    ⟨Nat.le_refl _, fun _ _ => rfl, fun _ _ => rfl, fun _ h => h, fun k hk => setRow_other w b k _ (fun e => (H.mem.own h _ b hl hb).1 (e ▸ hk))⟩
  have hget : ∀ k, (setV vs.toList (i * sz + j) (a.eval y).cells.toList).toArray[k]? = if i * sz + j ≤ k ∧ k < i * sz + j + (a.eval y).cells.size then (a.eval y).cells[k - (i * sz + j)]? else vs[k]? := fun k => by
    have := setV_get (a.eval y).cells.toList vs.toList (i * sz + j) k (by simpa using hbound)
    simpa using this
  obtain ⟨hm, e⟩ := H.mem.setRow hl hb (new := (setV vs.toList (i * sz + j) (a.eval y).cells.toList).toArray) (ch' := .row ct sz m (updR f i j v.cells)) (by
    refine .inr ⟨b, hb, _, cap, hsl, hcap, hcap', setRow_heap w b vs _ ct (0, 0) hheap, ?_, ?_, fun i' j' hi' hj' => ?_⟩
    · rw [← hvs]
      rw [setV_eq _ _ _ (by simpa using hbound)]
      simp
      omega
    · intro u hu
      rw [List.toList_toArray, setV_eq _ _ _ (by simpa using hbound)] at hu
      simp only [List.mem_append] at hu
      rcases hu with (hu | hu) | hu
      · exact hone u (List.mem_of_mem_take hu)
      · exact denL_oneCell hd u hu
      · exact hone u (List.mem_of_mem_drop hu)
    · rw [hget]
      unfold updR
      by_cases hc : i' = i ∧ j ≤ j' ∧ j' < j + v.cells.length
      · rw [if_pos hc]
        obtain ⟨rfl, h1, h2⟩ := hc
        rw [if_pos (by omega)]
        obtain ⟨u, hu, hd⟩ := denL_nth hd0 (show j' - j < v.cells.length by omega)
        exact ⟨u, by rw [show i' * sz + j' - (i' * sz + j) = j' - j by omega]; simpa using hu, CV.den0_ext e0.sub e0.heap _ _ hd⟩
      · rw [if_neg hc]
        obtain ⟨u, hu, hd⟩ := hcell i' j' hi' hj'
        refine ⟨u, ?_, CV.den0_ext e0.sub e0.heap _ _ hd⟩
        rw [if_neg ?_]
        · exact hu
        · rintro ⟨h1, h2⟩
          refine hc ?_
          have : i' * sz + j' = i * sz + (i' * sz + j' - i * sz) := by omega
          obtain ⟨e1, e2⟩ := mul_add_inj hj' (show i' * sz + j' - i * sz < sz by omega) this
          exact ⟨e1, by omega, by omega⟩)
  refine ⟨.skip, undef, _, ρ, ?_, .inr ⟨rfl, rfl⟩, hm, e, rfl, rfl⟩
  simp only [execOp, ho]
  rw [hx']
  simp [hrun]
end
end Go.Sx
namespace Go.Sx
open Go

section
variable {F : Fx} {cx : Cx} {ρ : Env} {S : Nat → Prop} {st : SS} {a : Act} {w : World}

theorem denL_of_nth {d : CV → Value → Prop} : ∀ {cs : List CV} {us : List Value}, us.length = cs.length → (∀ i u, us[i]? = some u → d (nth cs i) u) → denL d cs us
  | [], [], _, _ => trivial
  | [], _ :: _, h, _ => by simp at h
  | _ :: _, [], h, _ => by simp at h
  | c :: cs, u :: us, h, hh => ⟨hh 0 u rfl, denL_of_nth (by simpa using h) (fun i x hx => hh (i + 1) x (by simpa using hx))⟩

theorem catE_eq {α : Type} : ∀ (l m : List α), catE l m = l ++ m
  | [], _ => rfl
  | x :: l, m => by simp [catE, catE_eq l m]

theorem nth_append : ∀ (l m : List CV) (i : Nat), nth (l ++ m) i = if i < l.length then nth l i else nth m (i - l.length)
  | [], m, i => by simp
  | c :: l, m, 0 => by simp [nth]
  | c :: l, m, n + 1 => by simp [nth, nth_append l m n]

theorem repl_length (cs : List CV) : ∀ n, (repl cs n).length = n * cs.length
  | 0 => by simp [repl]
  | n + 1 => by simp [repl, catE_eq, repl_length cs n, Nat.add_mul]; omega

theorem nth_repl (cs : List CV) : ∀ n i, i < n * cs.length → nth (repl cs n) i = nth cs (i % cs.length)
  | 0, i, h => by simp at h
  | n + 1, i, h => by
    simp only [repl, catE_eq, nth_append]
    by_cases hi : i < cs.length
    · rw [if_pos hi, Nat.mod_eq_of_lt hi]
    · have h' : i < n * cs.length + cs.length := by rw [Nat.add_mul, Nat.one_mul] at h; exact h
      rw [if_neg hi, nth_repl cs n (i - cs.length) (by omega), ← Nat.mod_eq_sub_mod (show cs.length ≤ i by omega)]

theorem made_get {z : Array Value} {n i : Nat} (hi : i < n) : (madeCells z n)[i]? = some (z[i % z.size]!) := by
  simp [madeCells, hi]

theorem made_den {cs : List CV} {z : Array Value} {n : Nat} (hd : denL (CV.den ρ S w) cs z.toList) (hz : 0 < z.size) : denL (CV.den ρ S w) (repl cs n) (madeCells z (n * z.size)).toList := by
  have hlen := denL_length hd
  simp only [Array.length_toList] at hlen
  refine denL_of_nth (by rw [repl_length, ← hlen]; simp [madeCells]) (fun i u hu => ?_)
  have hi : i < n * z.size := by
    have := (List.getElem?_eq_some_iff.1 hu).1
    simpa [madeCells] using this
  have : (madeCells z (n * z.size))[i]? = some u := by simpa using hu
  rw [made_get hi] at this
  simp only [Option.some.injEq] at this
  subst this
  rw [nth_repl cs n i (by rw [← hlen]; exact hi), ← hlen]
  obtain ⟨x, hx, hdx⟩ := denL_nth hd (show i % z.size < cs.length by rw [← hlen]; exact Nat.mod_lt _ hz)
  have hx' : z[i % z.size]? = some x := by simpa using hx
  rw [getElem!_def, hx']
  exact hdx

/-- A new row. -/
theorem new_row (H : Sat F cx ρ S st a w) {o : Oper} {t : TypeId} {vs : Array Value} {sz n cap : Nat} {f : Nat → Nat → CV} {w' : World} (hp : Pushed w w' (.cells vs t))
    (hcap : n ≤ cap) (hcap' : cap ≤ 9223372036854775807) (hsz : vs.size = cap * sz) (hone : ∀ u ∈ vs.toList, u.oneCell' = true) (hcell : ∀ i j, i < n → j < sz → ∃ u, vs[i * sz + j]? = some u ∧ (f i j).den0 S w u)
    (hrun : (execOp a.eval o).run F.P w = .ok (.value (.slice (some ⟨w.heap.size, 0, none⟩) n cap)) w') {chunks : List (Nat × Chunk)} (hm : Mem F ρ S w chunks) :
    Turns F a w ρ S o (.r (.c (.osl st.next))) ((st.next, .row t sz n f) :: chunks) 1 := by
  have e := Ext.push hm (fun b hb => hp.old hb) (some w.heap.size) (.slice (some ⟨w.heap.size, 0, none⟩) n cap)
  have hm' := hm.push hp (v := .slice (some ⟨w.heap.size, 0, none⟩) n cap) (ch := .row t sz n f)
    (.inr ⟨w.heap.size, by simp [Env.push], vs, cap, by simp [Env.push], hcap, hcap', hp.new, hsz, hone, fun i j hi hj => let ⟨u, hu, hd⟩ := hcell i j hi hj; ⟨u, hu, CV.den0_ext e.sub e.heap _ _ hd⟩⟩)
  rw [H.nxt] at hm'
  exact ⟨_, _, _, _, hrun, .inl rfl, hm', e, rfl, by simp [Env.push, H.nxt], by simp [Env.push, H.nxt], rfl⟩

theorem constCV_flat {v : Value} {c : CV} (h : constCV v = some c) : c.flat = true := by
  unfold constCV at h
  split at h <;> first | (simp only [Option.some.injEq] at h; subst h; rfl) | cases h

theorem den0_of_flat {c : CV} {v : Value} (hf : c.flat = true) (h : c.den ρ S w v) : c.den0 S w v := by
  cases c <;> first | exact h | (simp [CV.flat] at hf; done)

theorem zero_den0 : ∀ {vs : List Value} {cs : List CV}, vs.map constCV = cs.map some → ∀ (i : Nat) (x : Value), vs[i]? = some x → (nth cs i).den0 S w x
  | [], _, _, i, x, hx => by simp at hx
  | _ :: _, [], h, _, _, _ => by simp at h
  | v :: vs, c :: cs, h, 0, x, hx => by
    simp only [List.map_cons, List.cons.injEq] at h
    simp only [List.getElem?_cons_zero, Option.some.injEq] at hx
    subst hx
    exact den0_of_flat (ρ := ⟨0, fun _ => none, fun _ => undef⟩) (constCV_flat h.1) (constCV_den h.1)
  | v :: vs, c :: cs, h, i + 1, x, hx => by
    simp only [List.map_cons, List.cons.injEq] at h
    exact zero_den0 h.2 i x (by simpa using hx)

theorem mem_makeSlice (H : Sat F cx ρ S st a w) (hT : TTok F.P cx.tt) {t : TypeId} {l c : Operand} {p q : Int} {n1 n2 : List Prop} {e : Nat} (o : Oper) (ho : o.op = .makeSlice t l c)
    (hl : getV cx st .always l = .v (.c (.int .i64 p)) n1) (hc : getV cx st .always c = .v (.c (.int .i64 q)) n2) (hs : (cx.tt t).sh = .slice e) (hk : (cx.tt e).known = true) (h1 : allOf n1) (h2 : allOf n2)
    (hv : 0 ≤ p ∧ p ≤ q ∧ q ≤ 9223372036854775807 ∧ q * (cx.tt e).bytes ≤ 140737488355328) :
    Turns F a w ρ S o (.r (.c (.osl st.next))) ((st.next, .row e (cx.tt e).size p.toNat (fun _ j => nth (cx.tt e).zero j)) :: st.chunks) 1 := by
  obtain ⟨v1, v2, v3, v4⟩ := hv
  obtain ⟨inf, z, hinf, hsz, hby, hz, hzc, hzs⟩ := (hT.of_known hk).info
  obtain ⟨d, hd, hsh⟩ := und_of hT hs (by simp)
  cases d <;> simp only [shOk] at hsh
  rw [hsh] at hd
  have hl' : a.eval l = .int .i64 p := getV_den H hl h1 rfl
  have hc' : a.eval c = .int .i64 q := getV_den H hc h2 rfl
  have hrun := run_make (P := F.P) w t e inf z hd hinf hz .i64 .i64 p q v1 v2 (by rw [hby, Int.mul_comm]; omega) v3
  have hzd := zero_den (ρ := ρ) (S := S) (w := w) hzc
  have hlen := denL_length hzd
  simp only [Array.length_toList] at hlen
  refine new_row H (vs := madeCells z.cells (q.toNat * inf.size)) (cap := q.toNat) (alloc_pushed w _) (by omega) (by omega) (by rw [size_madeCells, hsz]) ?_ ?_ ?_ H.mem
  · intro u hu
    simp only [madeCells, Array.toList_map, List.mem_map] at hu
    obtain ⟨k, hk', rfl⟩ := hu
    have hpos : 0 < z.cells.size := by
      by_cases h0 : z.cells.size = 0
      · rw [hzs] at h0
        simp [hsz, h0] at hk'
      · omega
    obtain ⟨x, hx, hdx⟩ := denL_nth hzd (show k % z.cells.size < _ by rw [← hlen]; exact Nat.mod_lt _ hpos)
    have hx' : z.cells[k % z.cells.size]? = some x := by simpa using hx
    rw [getElem!_def, hx']
    exact den_oneCell hdx
  · intro i j hi hj
    have hpos : 0 < z.cells.size := by omega
    have hlt : i * (cx.tt e).size + j < q.toNat * inf.size := by
      rw [hsz]
      have h3 : (i + 1) * (cx.tt e).size ≤ q.toNat * (cx.tt e).size := Nat.mul_le_mul_right _ (by omega)
      rw [Nat.add_mul, Nat.one_mul] at h3
      omega
    refine ⟨_, made_get hlt, ?_⟩
    obtain ⟨x, hx, hdx⟩ := denL_nth hzd (show j < _ by rw [← hlen]; omega)
    have hmod : (i * (cx.tt e).size + j) % z.cells.size = j := by rw [hzs, Nat.mul_comm, Nat.mul_add_mod, Nat.mod_eq_of_lt hj]
    have hx' : z.cells[j]? = some x := by simpa using hx
    rw [hmod, getElem!_def, hx']
    exact zero_den0 hzc j x hx
  · simp only [execOp, ho]
    refine run_value _ _ _ ?_
    rw [hl', hc']
    exact hrun

theorem mem_buildSlice (H : Sat F cx ρ S st a w) (hT : TTok F.P cx.tt) {t : TypeId} {n : Nat} {parts : Array (Nat × Operand)} {ps : List (Nat × List CV)} {ns : List Prop} {e : Nat} {cs : List CV} (o : Oper) (ho : o.op = .buildSlice t n parts)
    (hps : getPs cx st .always parts.toList = some (ps, ns)) (hs : (cx.tt t).sh = .slice e) (hk : (cx.tt e).known = true)
    (hf : fillC (fun i => if i < n then some (i * (cx.tt e).size, (cx.tt e).size) else none) (repl (cx.tt e).zero n) ps = some cs) (hn : allOf ns)
    (h24 : n * (cx.tt e).size ≤ 16777216) (hpos : 0 < (cx.tt e).size) (hflat : allOf (flats cs)) :
    Turns F a w ρ S o (.r (.c (.osl st.next))) ((st.next, .row e (cx.tt e).size n (rowF cs (cx.tt e).size n)) :: st.chunks) 1 := by
  obtain ⟨inf, z, hinf, hsz, hby, hz, hzc, hzs⟩ := (hT.of_known hk).info
  obtain ⟨d, hd, hsh⟩ := und_of hT hs (by simp)
  cases d <;> simp only [shOk] at hsh
  rw [hsh] at hd
  obtain ⟨h1, h2⟩ := getPs_sound H rfl hps hn
  have hz0 : denL (CV.den ρ S w) (repl (cx.tt e).zero n) (madeCells z.cells (n * z.cells.size)).toList := made_den (zero_den hzc)  (by omega)
  obtain ⟨res, hr, hrd, hrs⟩ := fillC_sound (d := CV.den ρ S w) (place := fun i => some (i * (cx.tt e).size, (cx.tt e).size)) (fun i o n hh => by
      split at hh
      · exact hh
      · cases hh) ps (parts.toList.map fun (i, x) => (i, a.eval x)) _ (madeCells z.cells (n * z.cells.size)) cs hf hz0 (by simp [h1]) (fun k p v hp hv' => by
      rw [List.getElem?_map] at hv'
      cases hx : parts.toList[k]? with
      | none => simp [hx] at hv'
      | some x =>
        simp only [hx, Option.map_some, Option.some.injEq] at hv'
        subst hv'
        exact h2 k p x hp hx)
    (fun i o m hh => by
      split at hh
      · rename_i hlt
        simp only [Option.some.injEq, Prod.mk.injEq] at hh
        obtain ⟨rfl, rfl⟩ := hh
        rw [size_madeCells, hzs]
        have h3 : (i + 1) * (cx.tt e).size ≤ n * (cx.tt e).size := Nat.mul_le_mul_right _ hlt
        rw [Nat.add_mul, Nat.one_mul] at h3
        omega
      · cases hh)
  rw [size_madeCells, hzs] at hrs
  have hnb : n ≤ 16777216 := Nat.le_trans (Nat.le_mul_of_pos_right n hpos) h24
  refine new_row H (vs := res) (cap := n) (alloc_pushed w (.cells res e)) (Nat.le_refl _) (by omega) hrs (denL_oneCell hrd) ?_ ?_ H.mem
  · intro i j hi hj
    have hlen := denL_length hrd
    simp only [Array.length_toList] at hlen
    have h3 : (i + 1) * (cx.tt e).size ≤ n * (cx.tt e).size := Nat.mul_le_mul_right _ hi
    rw [Nat.add_mul, Nat.one_mul] at h3
    obtain ⟨u, hu, hdu⟩ := denL_nth (flats_den0 hflat hrd) (show i * (cx.tt e).size + j < cs.length by omega)
    refine ⟨u, by simpa using hu, ?_⟩
    unfold rowF
    split
    · have : i = 0 := by omega
      subst this
      simpa using hdu
    · exact hdu
  · simp only [execOp, ho]
    refine run_value _ _ _ ?_
    have hlist : (parts.map fun (i, x) => (i, a.eval x)).toList = parts.toList.map fun (i, x) => (i, a.eval x) := by simp
    have h24' : ¬ (2 ^ 24 < n * (cx.tt e).size) := by omega
    unfold Instr.buildSlice
    have hso : (sizeOf e).run F.P w = .ok (cx.tt e).size w := by simp [sizeOf, typeInfo, hinf, hsz]
    simp only [Sem.run_bind, run_underlying hd, Result.andThen_ok, hso]
    rw [if_neg (by omega), hlist]
    have hnew : (newRow e res).run F.P w = .ok ⟨w.heap.size, 0, none⟩ (w.alloc (.cells res e)) := by simp [newRow]
    rw [hzs] at hr
    by_cases h0 : n * (cx.tt e).size = 0
    · rw [if_pos h0]
      have : ∀ zero : Array Value, (Array.range (n * (cx.tt e).size)).map (fun x => zero[x % zero.size]!) = madeCells z.cells (n * (cx.tt e).size) := fun zero => by simp [h0, madeCells]
      simp only [pure_bind, this, hr, Sem.run_bind, hnew, Result.andThen_ok, Sem.run_pure]
    · rw [if_neg h0]
      have hzr : (zeroValue e).run F.P w = .ok z w := by simp [zeroValue, typeInfo, hinf, hz]
      have : (Array.range (n * (cx.tt e).size)).map (fun x => z.cells[x % z.cells.size]!) = madeCells z.cells (n * (cx.tt e).size) := rfl
      simp only [Sem.run_bind, hzr, Result.andThen_ok, pure_bind, this, hr, hnew, Sem.run_pure]

/-- What is appended: its cells. -/
theorem news_of {b off sz m : Nat} {f : Nat → Nat → CV} (hsz : 0 < sz) (hc : ∀ i j, i < m → j < sz → ∃ u, w.cell? ⟨b, off + i * sz + j, none⟩ = some u ∧ (f i j).den0 S w u) :
    ∃ news : List Value, news.length = m * sz ∧ (∀ j u, news[j]? = some u → w.cell? ((⟨b, off, none⟩ : Addr).add j) = some u) ∧ (∀ u ∈ news, u.oneCell' = true) ∧
      ∀ i j, i < m → j < sz → ∃ u, news[i * sz + j]? = some u ∧ (f i j).den0 S w u := by
  obtain ⟨us, h1, h2, h3⟩ := cellsFrom_den (d := CV.den ⟨0, fun _ => none, fun _ => undef⟩ S w) (g := fun k => f (k / sz) (k % sz)) (cell := fun k => w.cell? ⟨b, off + k, none⟩) (m * sz) 0 (fun k _ hk => by
    have hk1 : k / sz < m := by rw [Nat.div_lt_iff_lt_mul hsz]; omega
    obtain ⟨u, hu, hd⟩ := hc (k / sz) (k % sz) hk1 (Nat.mod_lt _ hsz)
    refine ⟨u, ?_, den_of_den0 hd⟩
    rw [← hu]
    congr 2
    have := Nat.div_add_mod k sz
    rw [Nat.mul_comm] at this
    omega)
  refine ⟨us, h2, fun j u hu => ?_, denL_oneCell h1, fun i j hi hj => ?_⟩
  · rw [add_none]
    have := h3 j u hu
    simpa using this
  · have hlt : i * sz + j < us.length := by
      rw [h2]
      have h4 : (i + 1) * sz ≤ m * sz := Nat.mul_le_mul_right _ hi
      rw [Nat.add_mul, Nat.one_mul] at h4
      omega
    obtain ⟨u, hu⟩ : ∃ u, us[i * sz + j]? = some u := ⟨us[i * sz + j], List.getElem?_eq_getElem hlt⟩
    refine ⟨u, hu, ?_⟩
    have hcell := h3 _ u hu
    obtain ⟨x, hx, hdx⟩ := hc i j hi hj
    have : w.cell? ⟨b, off + i * sz + j, none⟩ = some u := by simpa [Nat.add_assoc] using hcell
    rw [hx] at this
    simp only [Option.some.injEq] at this
    exact this ▸ hdx

theorem run_append {o : Oper} {args : Array Operand} {ts : Array TypeId} {x y : Operand} {t : TypeId} (ho : o.op = .call ⟨.builtin .append, args, ts⟩) (hx : args.toList = [x, y]) (ht : ts.toList = [t, t]) (P : Program) (w : World)
    {v : Value} {w' : World} (h : (Builtin.append_ #[t, t] o.type #[a.eval x, a.eval y]).run P w = .ok v w') : (execOp a.eval o).run P w = .ok (.value v) w' := by
  have e1 : args = #[x, y] := by rw [← Array.toArray_toList (xs := args), hx]
  have e2 : ts = #[t, t] := by rw [← Array.toArray_toList (xs := ts), ht]
  subst e1 e2
  simp [execOp, ho, resolve, invoke, builtin, h]

theorem zeroCells_oneCell {z : Value} {cs : List CV} (hzc : z.cells.toList.map constCV = cs.map some) (n : Nat) : ∀ u ∈ (Builtin.zeroCells z.cells n).toList, u.oneCell' = true := by
  intro u hu
  simp only [Builtin.zeroCells, Array.toList_map, List.mem_map] at hu
  obtain ⟨k, hk, rfl⟩ := hu
  have hpos : 0 < z.cells.size := by
    by_cases h0 : z.cells.size = 0
    · simp [h0] at hk
    · omega
  have hzd := zero_den (ρ := ⟨0, fun _ => none, fun _ => undef⟩) (S := fun _ => False) (w := default) hzc
  have hlen := denL_length hzd
  simp only [Array.length_toList] at hlen
  obtain ⟨x, hx, hdx⟩ := denL_nth hzd (show k % z.cells.size < _ by rw [← hlen]; exact Nat.mod_lt _ hpos)
  have hx' : z.cells[k % z.cells.size]? = some x := by simpa using hx
  rw [getElem!_def, hx']
  exact den_oneCell hdx

theorem mem_append_nil (H : Sat F cx ρ S st a w) (hT : TTok F.P cx.tt) {args : Array Operand} {ts : Array TypeId} {x y : Operand} {t e : TypeId} {n1 n2 : List Prop} {b : CV} {sz m : Nat} {f : Nat → Nat → CV} (o : Oper)
    (ho : o.op = .call ⟨.builtin .append, args, ts⟩) (hargs : args.toList = [x, y]) (hts : ts.toList = [t, t]) (hx : getV cx st .always x = .v (.c .nils) n1) (hy : getV cx st .always y = .v (.c b) n2)
    (hs : (cx.tt t).sh = .slice e) (hsl : sliceOf st b = some (sz, m, f)) (hk : sz = (cx.tt e).size ∧ (cx.tt e).known = true) (h1 : allOf n1) (h2 : allOf n2)
    (hm63 : m ≤ 9223372036854775807) (hby : m * (cx.tt e).bytes ≤ 140737488355328) (hm : 0 < m) (hsz : 0 < sz) :
    Turns F a w ρ S o (.r (.c (.osl st.next))) ((st.next, .row e sz m f) :: st.chunks) 1 := by
  obtain ⟨inf, z, hinf, hisz, hib, hz, hzc, hzs⟩ := (hT.of_known hk.2).info
  obtain ⟨d, hd, hsh⟩ := und_of hT hs (by simp)
  cases d <;> simp only [shOk] at hsh
  rw [hsh] at hd
  have hx' : a.eval x = .slice none 0 0 := getV_den H hx h1 rfl
  obtain ⟨ad, cap, hy', hh⟩ := sliceOf_sound H (getV_den H hy h2 rfl) hsl
  obtain ⟨bb, off, rfl, hc⟩ := hh hm
  obtain ⟨news, hl, hnews, hone, hcell⟩ := news_of hsz hc
  have hrun := run_append_nil (P := F.P) w t o.type e inf z hd hinf hz ⟨bb, off, none⟩ m cap news (by rw [hl, hisz, hk.1]) hnews hm (by omega) (by rw [hib]; omega)
  have hge := grownCap_ge w m 0 e
  refine new_row H (vs := news.toArray ++ Builtin.zeroCells z.cells (grownCap w m 0 e - m)) (cap := grownCap w m 0 e) (drew_pushed w _) hge
    (by have := grownCap_le_maxLen w m 0 e (by simp only [maxLen]; omega); simp only [maxLen] at this; omega) ?_ ?_ ?_ (run_append ho hargs hts F.P w (by rw [hx', hy']; exact hrun)) H.mem
  · rw [Array.size_append, List.size_toArray, size_zeroCells, hl, hzs, ← hk.1, ← Nat.add_mul]
    congr 1; omega
  · intro u hu
    simp only [Array.toList_append, List.mem_append] at hu
    rcases hu with hu | hu
    · exact hone u hu
    · exact zeroCells_oneCell hzc _ u hu
  · intro i j hi hj
    obtain ⟨u, hu, hd⟩ := hcell i j hi hj
    refine ⟨u, ?_, hd⟩
    have hlt := (List.getElem?_eq_some_iff.1 hu).1
    rw [Array.getElem?_append_left (by simpa using hlt)]
    simpa using hu
end
end Go.Sx
namespace Go.Sx
open Go

section
variable {F : Fx} {cx : Cx} {ρ : Env} {S : Nat → Prop} {st : SS} {a : Act} {w : World} {chunks : List (Nat × Chunk)}

/-- A block of one's own is written, and its handle is a new one. -/
theorem Mem.rekey (H : Mem F ρ S w chunks) {h : Nat} {ch ch' : Chunk} (hl : look chunks h = some ch) {b : Nat} (hb : ρ.blk h = some b) {new : Array Value} {v : Value}
    (hch : chunkSat (ρ.push (some b) v) S (w.setRow b new) ρ.nx ch') :
    Mem F (ρ.push (some b) v) S (w.setRow b new) ((ρ.nx, ch') :: del chunks h) ∧ Ext ρ S w (ρ.push (some b) v) S (w.setRow b new) := by
  obtain ⟨hnS, hnF⟩ := H.own h ch b hl hb
  have e : Ext ρ S w (ρ.push (some b) v) S (w.setRow b new) :=
    ⟨by simp [Env.push], fun k hk => by simp [Env.push, Nat.ne_of_lt hk], fun k hk => by simp [Env.push, Nat.ne_of_lt hk], fun _ h => h, fun k hk => setRow_other w b k new (fun e => hnS (e ▸ hk))⟩
  have hsize : (w.setRow b new).heap.size = w.heap.size := setRow_size w b new
  have hold : ∀ k c, look ((ρ.nx, ch') :: del chunks h) k = some c → (k = ρ.nx ∧ c = ch') ∨ (k ≠ ρ.nx ∧ k ≠ h ∧ look chunks k = some c) := fun k c hk => by
    rw [look_cons, look_del] at hk
    by_cases e1 : ρ.nx = k
    · rw [if_pos e1] at hk
      simp only [Option.some.injEq] at hk
      exact .inl ⟨e1.symm, hk.symm⟩
    · rw [if_neg e1] at hk
      by_cases e2 : h = k
      · rw [if_pos e2] at hk; cases hk
      · rw [if_neg e2] at hk
        exact .inr ⟨Ne.symm e1, Ne.symm e2, hk⟩
  refine ⟨⟨H.os, H.tape, H.output, by rw [hsize]; exact H.size, H.ext.trans e, fun k hk => ?_, fun k hk => ?_, fun k c hk => ?_, fun k c b' hk hb' => ?_, fun k k' c c' b' hk hk' hb' hb'' => ?_⟩, e⟩
  · rw [setRow_other w b k new (fun e => hnF (e ▸ hk))]; exact H.fr k hk
  · rw [hsize]; exact H.ro k hk
  · rcases hold k c hk with ⟨rfl, rfl⟩ | ⟨h1, h2, hk⟩
    · exact ⟨by simp [Env.push], hch⟩
    · obtain ⟨h3, h4⟩ := H.sat k c hk
      exact ⟨by simp [Env.push]; omega, chunkSat_ext e h3 (fun b' hb' => setRow_other w b b' new (fun e => h2 (H.apart k h c ch b' hk hl hb' (e ▸ hb)))) h4⟩
  · rcases hold k c hk with ⟨rfl, rfl⟩ | ⟨h1, h2, hk⟩
    · simp only [Env.push, if_true, Option.some.injEq] at hb'
      subst hb'
      exact ⟨hnS, hnF⟩
    · rw [e.blk k (H.sat k c hk).1] at hb'
      exact H.own k c b' hk hb'
  · rcases hold k c hk with ⟨rfl, rfl⟩ | ⟨h1, h2, hq⟩ <;> rcases hold k' c' hk' with ⟨rfl, rfl⟩ | ⟨h1', h2', hq'⟩
    · rfl
    · simp only [Env.push, if_true, Option.some.injEq] at hb'
      subst hb'
      rw [e.blk k' (H.sat k' c' hq').1] at hb''
      exact absurd (H.apart k' h c' ch b hq' hl hb'' hb) h2'
    · simp only [Env.push, if_true, Option.some.injEq] at hb''
      subst hb''
      rw [e.blk k (H.sat k c hq).1] at hb'
      exact absurd (H.apart k h c ch b hq hl hb' hb) h2
    · rw [e.blk k (H.sat k c hq).1] at hb'
      rw [e.blk k' (H.sat k' c' hq').1] at hb''
      exact H.apart k k' c c' b' hq hq' hb' hb''

theorem appR_lt {n i j : Nat} {f g : Nat → Nat → CV} (h : i < n) : appR n f g i j = f i j := by simp [appR, h]
theorem appR_ge {n i j : Nat} {f g : Nat → Nat → CV} (h : n ≤ i) : appR n f g i j = g (i - n) j := by simp [appR, Nat.not_lt.2 h]

theorem mem_append_own (H : Sat F cx ρ S st a w) (hT : TTok F.P cx.tt) {args : Array Operand} {ts : Array TypeId} {x y : Operand} {t e : TypeId} {n1 n2 : List Prop} {b : CV} {sz m2 : Nat} {f2 : Nat → Nat → CV} (o : Oper)
    (ho : o.op = .call ⟨.builtin .append, args, ts⟩) (hargs : args.toList = [x, y]) (hts : ts.toList = [t, t]) {h m : Nat} {f : Nat → Nat → CV} (hx : getV cx st .always x = .v (.c (.osl h)) n1) (hy : getV cx st .always y = .v (.c b) n2)
    (hs : (cx.tt t).sh = .slice e) (hsl : sliceOf st b = some (sz, m2, f2)) (hlook : look st.chunks h = some (.row e sz m f)) (hk : sz = (cx.tt e).size ∧ (cx.tt e).known = true) (h1 : allOf n1) (h2 : allOf n2)
    (hm63 : m + m2 ≤ 9223372036854775807) (hby : (m + m2) * (cx.tt e).bytes ≤ 140737488355328) (hm : 0 < m2) (hsz : 0 < sz) :
    Turns F a w ρ S o (.r (.c (.osl st.next))) ((st.next, .row e sz (m + m2) (appR m f f2)) :: del st.chunks h) 1 := by
  obtain ⟨inf, z, hinf, hisz, hib, hz, hzc, hzs⟩ := (hT.of_known hk.2).info
  obtain ⟨d, hd, hsh⟩ := und_of hT hs (by simp)
  cases d <;> simp only [shOk] at hsh
  rw [hsh] at hd
  obtain ⟨_, hx', _⟩ := getV_den H hx h1 rfl
  obtain ⟨ad, cap2, hy', hh⟩ := sliceOf_sound H (getV_den H hy h2 rfl) hsl
  obtain ⟨bb, off, rfl, hc⟩ := hh hm
  obtain ⟨news, hl, hnews, hone, hcell⟩ := news_of hsz hc
  obtain ⟨_, hsat⟩ := H.mem.sat _ _ hlook
  rcases hsat with ⟨_, hnil, rfl⟩ | ⟨bl, hbl, vs, cap, hval, hcap, hcap63, hheap, hvs, hone', hcell'⟩
  · -- nothing yet
    simp only [Nat.zero_add] at hm63 hby ⊢
    have hrun := run_append_nil (P := F.P) w t o.type e inf z hd hinf hz ⟨bb, off, none⟩ m2 cap2 news (by rw [hl, hisz, hk.1]) hnews hm (by omega) (by rw [hib]; omega)
    have hge := grownCap_ge w m2 0 e
    refine new_row H (vs := news.toArray ++ Builtin.zeroCells z.cells (grownCap w m2 0 e - m2)) (cap := grownCap w m2 0 e) (drew_pushed w _) hge
      (by have := grownCap_le_maxLen w m2 0 e (by simp only [maxLen]; omega); simp only [maxLen] at this; omega) ?_ ?_ ?_ (run_append ho hargs hts F.P w (by rw [hx', hy', hnil]; exact hrun)) (H.mem.less h)
    · rw [Array.size_append, List.size_toArray, size_zeroCells, hl, hzs, ← hk.1, ← Nat.add_mul]
      congr 1; omega
    · intro u hu
      simp only [Array.toList_append, List.mem_append] at hu
      rcases hu with hu | hu
      · exact hone u hu
      · exact zeroCells_oneCell hzc _ u hu
    · intro i j hi hj
      obtain ⟨u, hu, hd⟩ := hcell i j hi hj
      refine ⟨u, ?_, by rw [appR_ge (Nat.zero_le _)]; exact hd⟩
      have hlt := (List.getElem?_eq_some_iff.1 hu).1
      rw [Array.getElem?_append_left (by simpa using hlt)]
      simpa using hu
  · by_cases hroom : m + m2 ≤ cap
    · -- there is room
      have hfit : m * inf.size + news.length ≤ vs.size := by
        rw [hl, hvs, hisz, ← hk.1, ← Nat.add_mul]
        exact Nat.mul_le_mul_right _ hroom
      have hrun := run_append_room (P := F.P) w t o.type e inf hd hinf bl m cap vs hheap ⟨bb, off, none⟩ m2 cap2 news (by rw [hl, hisz, hk.1]) hnews hone hroom hfit
      have hnew : (vs.toList.take (m * inf.size) ++ news ++ vs.toList.drop (m * inf.size + news.length)).toArray = (setV vs.toList (m * inf.size) news).toArray := by
        rw [setV_eq _ _ _ (by simpa using hfit)]
      rw [hnew] at hrun
      have hisz' : inf.size = sz := hisz.trans hk.1.symm
      rw [hisz'] at hrun hfit
      have hget : ∀ k, (setV vs.toList (m * sz) news).toArray[k]? = if m * sz ≤ k ∧ k < m * sz + news.length then news[k - m * sz]? else vs[k]? := fun k => by
        have := setV_get news vs.toList (m * sz) k (by simpa using hfit)
        simpa using this
      have hlenNew : (setV vs.toList (m * sz) news).length = vs.size := by
        rw [setV_eq _ _ _ (by simpa using hfit)]
        simp
        omega
      have e0 : ∀ k, S k → (w.setRow bl (setV vs.toList (m * sz) news).toArray).heap[k]? = w.heap[k]? := fun k hk => setRow_other w bl k _ (fun e => (H.mem.own h _ bl hlook hbl).1 (e ▸ hk))
      obtain ⟨hm', e⟩ := H.mem.rekey hlook hbl (new := (setV vs.toList (m * sz) news).toArray) (v := .slice (some ⟨bl, 0, none⟩) (m + m2) cap) (ch' := .row e sz (m + m2) (appR m f f2)) (by
        refine .inr ⟨bl, by simp [Env.push], (setV vs.toList (m * sz) news).toArray, cap, by simp [Env.push], hroom, hcap63, setRow_heap w bl vs _ e (0, 0) hheap, by rw [List.size_toArray, hlenNew, hvs], ?_, fun i j hi hj => ?_⟩
        · intro u hu
          rw [List.toList_toArray, setV_eq _ _ _ (by simpa using hfit)] at hu
          simp only [List.mem_append] at hu
          rcases hu with (hu | hu) | hu
          · exact hone' u (List.mem_of_mem_take hu)
          · exact hone u hu
          · exact hone' u (List.mem_of_mem_drop hu)
        · rw [hget]
          by_cases him : i < m
          · rw [appR_lt him]
            obtain ⟨u, hu, hd⟩ := hcell' i j him hj
            refine ⟨u, ?_, CV.den0_ext (fun _ h => h) e0 _ _ hd⟩
            rw [if_neg ?_]
            · exact hu
            · rintro ⟨h1, _⟩
              have h4 : (i + 1) * sz ≤ m * sz := Nat.mul_le_mul_right _ him
              rw [Nat.add_mul, Nat.one_mul] at h4
              omega
          · rw [appR_ge (by omega)]
            obtain ⟨u, hu, hd⟩ := hcell (i - m) j (by omega) hj
            have hlt := (List.getElem?_eq_some_iff.1 hu).1
            have heq : i * sz = m * sz + (i - m) * sz := by rw [← Nat.add_mul]; congr 1; omega
            refine ⟨u, ?_, CV.den0_ext (fun _ h => h) e0 _ _ hd⟩
            rw [if_pos (by omega), show i * sz + j - m * sz = (i - m) * sz + j by omega]
            exact hu)
      rw [H.nxt] at hm'
      refine ⟨_, _, _, _, run_append ho hargs hts F.P w (by rw [hx', hy', hval]; exact hrun), .inl rfl, hm', e, rfl, by simp [Env.push, H.nxt], by simp [Env.push, H.nxt], rfl⟩
    · -- it grows
      have hisz' : inf.size = sz := hisz.trans hk.1.symm
      have hlt : cap < m + m2 := by omega
      have hold : (vs.toList.take (m * sz)).length = m * inf.size := by
        rw [hisz', List.length_take, Array.length_toList, hvs]
        exact Nat.min_eq_left (Nat.mul_le_mul_right _ hcap)
      have hrun := run_append_grow (P := F.P) w t o.type e inf z hd hinf hz ⟨bl, 0, none⟩ m cap (vs.toList.take (m * sz)) hold (fun j v hv => by
          rw [add_none]
          rw [List.getElem?_take] at hv
          split at hv
          · exact cell_of_heap hheap (by simpa using hv)
          · cases hv) ⟨bb, off, none⟩ m2 cap2 news (by rw [hl, hisz, hk.1]) hnews hlt (by omega) (growslice_fits hlt (by rw [hib]; exact hby))
      have hge := grownCap_ge w (m + m2) cap e
      refine new_row H (vs := (vs.toList.take (m * sz)).toArray ++ news.toArray ++ Builtin.zeroCells z.cells (grownCap w (m + m2) cap e - (m + m2))) (cap := grownCap w (m + m2) cap e) (drew_pushed w _) hge
        (by have := grownCap_le_maxLen w (m + m2) cap e (by simp only [maxLen]; omega); simp only [maxLen] at this; omega) ?_ ?_ ?_ (run_append ho hargs hts F.P w (by rw [hx', hy', hval]; exact hrun)) (H.mem.less h)
      · rw [Array.size_append, Array.size_append, List.size_toArray, List.size_toArray, size_zeroCells, hl, hold, hzs, hisz', ← hk.1, ← Nat.add_mul, ← Nat.add_mul]
        congr 1; omega
      · intro u hu
        simp only [Array.toList_append, List.mem_append] at hu
        rcases hu with (hu | hu) | hu
        · exact hone' u (List.mem_of_mem_take hu)
        · exact hone u hu
        · exact zeroCells_oneCell hzc _ u hu
      · intro i j hi hj
        rw [hisz'] at hold
        by_cases him : i < m
        · rw [appR_lt him]
          obtain ⟨u, hu, hd⟩ := hcell' i j him hj
          have h4 : (i + 1) * sz ≤ m * sz := Nat.mul_le_mul_right _ him
          rw [Nat.add_mul, Nat.one_mul] at h4
          refine ⟨u, ?_, hd⟩
          rw [Array.append_assoc, Array.getElem?_append_left (by rw [List.size_toArray, hold]; omega)]
          simp only [List.getElem?_toArray, List.getElem?_take]
          rw [if_pos (by omega)]
          simpa using hu
        · rw [appR_ge (by omega)]
          obtain ⟨u, hu, hd⟩ := hcell (i - m) j (by omega) hj
          have hlt' := (List.getElem?_eq_some_iff.1 hu).1
          have heq : i * sz = m * sz + (i - m) * sz := by rw [← Nat.add_mul]; congr 1; omega
          refine ⟨u, ?_, hd⟩
          rw [Array.append_assoc, Array.getElem?_append_right (by rw [List.size_toArray, hold]; omega), List.size_toArray, hold,
            Array.getElem?_append_left (by rw [List.size_toArray]; omega), show i * sz + j - m * sz = (i - m) * sz + j by omega]
          simpa using hu

/-- An operation that turns memory does as it is said. -/
theorem mem_range (H : Sat F cx ρ S st a w) (hT : TTok F.P cx.tt) {t : TypeId} {x : Operand} {s : List UInt8} {n1 : List Prop} (o : Oper) (ho : o.op = .range t x) (hx : getV cx st .always x = .v (.c (.str s)) n1) (hs : (cx.tt t).sh = .str) (hv : allOf n1) :
    Turns F a w ρ S o (.r (.c (.ref st.next 0))) ((st.next, .iter s 0) :: st.chunks) 1 := by
  have hd : a.eval x = .string ⟨s.toArray⟩ := getV_den H hx hv rfl
  obtain ⟨d, hund, hsh, _⟩ := (hT.of_sh hs (by simp)).und
  rw [hs] at hsh
  have hdd : d = .string := by cases d <;> first | rfl | exact hsh.elim
  subst hdd
  have hp : Pushed w (w.iter ⟨s.toArray⟩ 0) (.stringIter ⟨s.toArray⟩ 0) := alloc_pushed w _
  have hnx := H.nxt
  have hm := H.mem.push hp (v := undef) (ch := .iter s 0) ⟨w.heap.size, by simp [Env.push], hp.new⟩
  refine ⟨.value (.pointer (some ⟨w.heap.size, 0, none⟩)), _, w.iter ⟨s.toArray⟩ 0, ρ.push (some w.heap.size) undef, ?_, .inl rfl, by rw [← hnx]; exact hm, Ext.push H.mem (fun b hb => hp.old hb) _ _, by simp [Env.push], ?_⟩
  · simp [execOp, ho, hd, run_range_string w t _ hund]
  · exact ⟨by rw [← hnx]; simp [Env.push], w.heap.size, by rw [← hnx]; simp [Env.push], rfl⟩

theorem mem_next (H : Sat F cx ρ S st a w) {x : Operand} {h : Nat} {s : List UInt8} {p : Nat} {n1 : List Prop} (o : Oper) (ho : o.op = .next x true) (hx : getV cx st .always x = .v (.c (.ref h 0)) n1) (hl : look st.chunks h = some (.iter s p)) (hv : allOf n1)
    (ha : p < s.length → (s.getD p 0).toNat < 128) :
    Turns F a w ρ S o (.it (decide (p < s.length)) p (s.getD p 0).toNat) (chg st.chunks h (.iter s (if p < s.length then p + 1 else p))) 0 := by
  obtain ⟨hlt, b, hb, hxe⟩ := (show (CV.ref h 0).den ρ S w (a.eval x) from getV_den H hx hv rfl)
  obtain ⟨_, b', hb', hheap⟩ := H.mem.sat _ _ hl
  rw [hb] at hb'
  simp only [Option.some.injEq] at hb'
  subst hb'
  have hsz : (⟨s.toArray⟩ : ByteArray).size = s.length := size_mk s
  by_cases hp : p < s.length
  · have hp' : p < (⟨s.toArray⟩ : ByteArray).size := by rw [hsz]; exact hp
    have hg : ((⟨s.toArray⟩ : ByteArray)[p]'hp') = s.getD p 0 := by
      show s.toArray[p] = _
      simp [hp]
    have hrun := Lib.run_next_ascii_at (P := F.P) w b ⟨s.toArray⟩ p o.type hheap hp' (by rw [hg]; exact ha hp)
    rw [hg] at hrun
    have hblt : b < w.heap.size := (Array.getElem?_eq_some_iff.1 hheap).1
    obtain ⟨hm, e⟩ := H.mem.upd hl hb (w' := w.iterAt b ⟨s.toArray⟩ (p + 1)) (ch' := .iter s (p + 1)) rfl rfl rfl (by simp [World.iterAt]) (fun k hk => by simp [World.iterAt, Array.getElem?_setIfInBounds_ne (Ne.symm hk)])
      ⟨b, hb, Lib.iterAt_heap w b _ p (p + 1) hheap⟩
    refine ⟨.value (.tuple #[.bool true, .int .i64 p, .int .i32 (s.getD p 0).toNat]), _, _, ρ, ?_, .inl rfl, by rw [if_pos hp]; exact hm, e, by simp, ?_⟩
    · simp [execOp, ho, hxe, hrun]
    · show _ = _
      simp [hp]
  · have hp' : ¬ p < (⟨s.toArray⟩ : ByteArray).size := by rw [hsz]; exact hp
    have hrun := Lib.run_next_end_at (P := F.P) w b ⟨s.toArray⟩ p o.type hheap hp'
    have hsame : Mem F ρ S w (chg st.chunks h (.iter s p)) := (H.mem.upd hl hb (w' := w) (ch' := .iter s p) rfl rfl rfl rfl (fun _ _ => rfl) ⟨b, hb, hheap⟩).1
    refine ⟨.value (.tuple #[.bool false]), _, w, ρ, ?_, .inl rfl, by rw [if_neg hp]; exact hsame, Ext.refl _ _ _, by simp, ?_⟩
    · simp [execOp, ho, hxe, hrun]
    · show _ = _
      simp [hp]

theorem memOp_sound (H : Sat F cx ρ S st a w) (hT : TTok F.P cx.tt) {vc : List Prop} {v : TV} {ch : List (Nat × Chunk)} {n : Nat} (o : Oper)
    (h : memOp cx st o.op = some (vc, v, ch, n)) (hv : allOf vc) : Turns F a w ρ S o v ch n := by
  cases ho : o.op <;> rw [ho] at h
  case alloc t =>
    simp only [memOp] at h
    split at h
    · rename_i hk
      simp only [Option.some.injEq, Prod.mk.injEq] at h
      obtain ⟨_, rfl, rfl, rfl⟩ := h
      exact mem_alloc H hT o ho hk
    · cases h
  case box t x =>
    simp only [memOp] at h
    split at h
    · rename_i v' n' hx
      simp only [Option.some.injEq, Prod.mk.injEq] at h
      obtain ⟨rfl, rfl, rfl, rfl⟩ := h
      exact mem_box H o ho hx hv
    · cases h
  case store t x y =>
    simp only [memOp] at h
    split at h
    · rename_i hh off n1 v' n2 hx hy
      split at h
      · rename_i ct cs hl
        simp only [Option.some.injEq, Prod.mk.injEq] at h
        obtain ⟨rfl, rfl, rfl, rfl⟩ := h
        rw [allOf_cat, allOf_cat] at hv
        obtain ⟨v1, v2, v3, v4, v5, _⟩ := hv
        exact mem_store_ref H (hT.of_known v3) o ho hx hy hl v1 v2 v4 v5
      · cases h
    · rename_i hh sz i j n1 v' n2 hx hy
      split at h
      · rename_i ct sz' m f hl
        simp only [Option.some.injEq, Prod.mk.injEq] at h
        obtain ⟨rfl, rfl, rfl, rfl⟩ := h
        rw [allOf_cat, allOf_cat] at hv
        obtain ⟨v1, v2, v3, v4, v5, v6, v7, v8⟩ := hv
        subst v6
        exact mem_store_row H (hT.of_known v3) o ho hx hy hl v1 v2 v4 v5 v7 v8
      · cases h
    · cases h
  case buildSlice t k parts =>
    simp only [memOp] at h
    split at h
    · cases h
    · rename_i ps ns hps
      split at h
      · rename_i e hs
        split at h
        · rename_i cs hk hf
          simp only [Option.some.injEq, Prod.mk.injEq] at h
          obtain ⟨rfl, rfl, rfl, rfl⟩ := h
          rw [allOf_cat] at hv
          obtain ⟨v1, v2, v3, v4⟩ := hv
          exact mem_buildSlice H hT o ho hps hs hk hf v1 v2 v3 v4
        · cases h
      · cases h
  case makeSlice t l c =>
    simp only [memOp] at h
    split at h
    · rename_i p n1 q n2 e hl hc hs
      split at h
      · cases h
      · rename_i hk
        simp only [Option.some.injEq, Prod.mk.injEq] at h
        obtain ⟨rfl, rfl, rfl, rfl⟩ := h
        rw [allOf_cat, allOf_cat] at hv
        obtain ⟨v1, v2, v3, v4, v5, v6, _⟩ := hv
        exact mem_makeSlice H hT o ho hl hc hs hk v1 v2 ⟨v3, v4, v5, v6⟩
    · cases h
  case range t x =>
    simp only [memOp] at h
    split at h
    · rename_i s n1 hx hs
      simp only [Option.some.injEq, Prod.mk.injEq] at h
      obtain ⟨rfl, rfl, rfl, rfl⟩ := h
      exact mem_range H hT o ho hx hs hv
    · cases h
  case next x iss =>
    cases iss with
    | false => simp [memOp] at h
    | true =>
      simp only [memOp] at h
      split at h
      · rename_i hh n1 hx
        split at h
        · rename_i s p hl
          simp only [Option.some.injEq, Prod.mk.injEq] at h
          obtain ⟨rfl, rfl, rfl, rfl⟩ := h
          rw [allOf_cat] at hv
          exact mem_next H o ho hx hl hv.1 hv.2.1
        · cases h
      · cases h
  case call c =>
    obtain ⟨callee, args, ts⟩ := c
    cases callee with
    | value f => simp [memOp] at h
    | invoke r m => simp [memOp] at h
    | builtin b =>
      cases b <;> first | (simp [memOp] at h; done) | skip
      simp only [memOp] at h
      split at h
      · rename_i x y t t' hargs hts
        split at h
        · rename_i c1 n1 c2 n2 e hx hy hs ht
          have ht' : t = t' := by simpa using ht
          subst ht'
          split at h
          · rename_i sz m2 f2 hsl
            split at h
            · cases h
            · rename_i hk
              simp only [Bool.and_eq_true, beq_iff_eq] at hk
              split at h
              · simp only [Option.some.injEq, Prod.mk.injEq] at h
                obtain ⟨rfl, rfl, rfl, rfl⟩ := h
                rw [allOf_cat, allOf_cat] at hv
                obtain ⟨v1, v2, v3, v4, v5, v6, _⟩ := hv
                exact mem_append_nil H hT o ho hargs hts hx hy hs hsl hk v1 v2 v3 v4 v5 v6
              · rename_i hh
                split at h
                · rename_i e' sz' m f hlook
                  split at h
                  · rename_i h1 h2
                    have h1' : sz' = sz := by simpa using h1
                    have h2' : e' = e := by simpa using h2
                    subst h1' h2'
                    simp only [Option.some.injEq, Prod.mk.injEq] at h
                    obtain ⟨rfl, rfl, rfl, rfl⟩ := h
                    rw [allOf_cat, allOf_cat] at hv
                    obtain ⟨v1, v2, v3, v4, v5, v6, _⟩ := hv
                    exact mem_append_own H hT o ho hargs hts hx hy hs hsl hlook hk v1 v2 v3 v4 v5 v6
                  · cases h
                · cases h
              · cases h
          · cases h
        · cases h
      · cases h
  all_goals simp [memOp] at h
end
end Go.Sx
