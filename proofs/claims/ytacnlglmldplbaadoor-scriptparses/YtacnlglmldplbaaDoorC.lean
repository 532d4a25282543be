/- A part of the proof of the theorem in the last text of this folder: a symbolic executor over the model, and contracts of functions. -/
import Derived.Test.YtacnlglmldplbaaDoorB
import Derived.OrdersHeld
import Derived.LoopN
import Derived.KernelRfl
set_option linter.unusedSimpArgs false
set_option linter.unusedVariables false
namespace Go.Sx
open Go

section
variable {F : Fx} {cx : Cx} {ρ : Env} {S : Nat → Prop} {st : SS} {a : Act} {w : World} {chunks : List (Nat × Chunk)}

/-- The handles behind handles. -/
def Env.via (ρ : Env) (nx : Nat) (τ : Nat → Option Nat) : Env :=
  ⟨nx, fun h => (τ h).bind ρ.blk, fun h => match τ h with | some h' => ρ.sl h' | none => .slice none 0 0⟩

theorem CV.eqv_den {nx : Nat} {τ : Nat → Option Nat} {c d : CV} {v : Value} (h : allOf (c.eqv nx τ d)) (hd : d.den ρ S w v) : c.den (ρ.via nx τ) S w v := by
  cases c <;> cases d <;> simp only [CV.eqv, allOf, and_true] at h <;> first | exact h.elim | skip
  case int.int k n k' n' => obtain ⟨h1, rfl⟩ := h; rw [ikEq_iff] at h1; subst h1; exact hd
  case bool.bool => subst h; exact hd
  case str.str => subst h; exact hd
  case nilp.nilp => exact hd
  case nils.nils => exact hd
  case lit.lit => subst h; exact hd
  case ro.ro sz n f sz' n' f' =>
    obtain ⟨rfl, rfl, h⟩ := h
    obtain ⟨ad, cap, rfl, hle, hh⟩ := den_ro (ρ := ρ) hd
    refine ⟨ad, cap, rfl, hle, fun hn => ?_⟩
    obtain ⟨b, off, rfl, hb, hc⟩ := hh hn
    refine ⟨b, off, rfl, hb, fun i j hi hj => ?_⟩
    rw [h i j hi hj]
    exact hc i j hi hj
  case ro.nils sz n f =>
    subst h
    have hd' : v = .slice none 0 0 := hd
    exact ⟨none, 0, hd', Nat.le_refl _, fun hn => by omega⟩
  case rop.rop => obtain ⟨rfl, rfl, rfl, rfl, rfl⟩ := h; exact hd
  case ref.ref hh o hh' o' =>
    obtain ⟨h1, h2, rfl⟩ := h
    obtain ⟨_, b, hb, rfl⟩ := hd
    exact ⟨h1, b, by simp [Env.via, h2, hb], rfl⟩
  case osl.osl hh hh' =>
    obtain ⟨h1, h2⟩ := h
    obtain ⟨_, h3, h4⟩ := hd
    exact ⟨h1, by simp [Env.via, h2, h3], h4⟩
  case osl.nils hh =>
    obtain ⟨h1, h2⟩ := h
    have hd' : v = .slice none 0 0 := hd
    exact ⟨h1, by simp [Env.via, h2, hd'], by rw [hd']; rfl⟩
  case rowp.rowp hh sz i j hh' sz' i' j' =>
    obtain ⟨h1, h2, rfl, rfl, rfl⟩ := h
    obtain ⟨_, b, hb, rfl⟩ := hd
    exact ⟨h1, b, by simp [Env.via, h2, hb], rfl⟩

theorem eqvL_den {nx : Nat} {τ : Nat → Option Nat} : ∀ {cs ds : List CV} {us : List Value}, allOf (eqvL nx τ cs ds) → denL (CV.den ρ S w) ds us → denL (CV.den (ρ.via nx τ) S w) cs us
  | [], [], _, _, h => by
    rename_i us _
    cases us with
    | nil => trivial
    | cons _ _ => exact h.elim
  | [], _ :: _, _, h, _ => h.1.elim
  | _ :: _, [], _, h, _ => h.1.elim
  | c :: cs, d :: ds, [], _, h => h.elim
  | c :: cs, d :: ds, u :: us, h, h' => by
    rw [eqvL, allOf_cat] at h
    exact ⟨CV.eqv_den h.1 h'.1, eqvL_den h.2 h'.2⟩

theorem RV.eqv_den {nx : Nat} {τ : Nat → Option Nat} {c d : RV} {v : Value} (h : allOf (c.eqv nx τ d)) (hd : d.den ρ S w v) : c.den (ρ.via nx τ) S w v := by
  cases c <;> cases d <;> first | exact h.1.elim | skip
  · exact CV.eqv_den h hd
  · obtain ⟨vs, rfl, hl⟩ := hd
    exact ⟨vs, rfl, eqvL_den h hl⟩

theorem eqvR_den {nx : Nat} {τ : Nat → Option Nat} : ∀ {cs ds : List RV} {us : List Value}, allOf (eqvR nx τ cs ds) → denR (RV.den ρ S w) ds us → denR (RV.den (ρ.via nx τ) S w) cs us
  | [], [], [], _, _ => trivial
  | [], [], _ :: _, _, h => h.elim
  | [], _ :: _, _, h, _ => h.1.elim
  | _ :: _, [], _, h, _ => h.1.elim
  | c :: cs, d :: ds, [], _, h => h.elim
  | c :: cs, d :: ds, u :: us, h, h' => by
    rw [eqvR, allOf_cat] at h
    exact ⟨RV.eqv_den h.1 h'.1, eqvR_den h.2 h'.2⟩

theorem TV.eqv_den {nx : Nat} {τ : Nat → Option Nat} {c d : TV} {v : Value} (h : allOf (c.eqv nx τ d)) (hd : d.den ρ S w v) : c.den (ρ.via nx τ) S w v := by
  cases c <;> cases d <;> first | exact h.1.elim | skip
  · exact RV.eqv_den h hd
  · obtain ⟨vs, rfl, hl⟩ := hd
    exact ⟨vs, rfl, eqvR_den h hl⟩

theorem look_mem {α : Type} : ∀ {l : List (Nat × α)} {h : Nat} {x : α}, look l h = some x → (h, x) ∈ l
  | [], _, _, e => by cases e
  | (k, v) :: r, h, x, e => by
    rw [look_cons] at e
    split at e
    · rename_i hk
      simp only [Option.some.injEq] at e
      subst hk e
      exact List.mem_cons_self ..
    · exact List.mem_cons_of_mem _ (look_mem e)

theorem memB_iff : ∀ (n : Nat) (l : List Nat), memB n l = true ↔ n ∈ l
  | n, [] => by simp [memB]
  | n, m :: r => by
    simp only [memB]
    by_cases h : m = n
    · subst h; simp
    · have : (m == n) = false := by simpa using h
      simp [this, memB_iff n r, Ne.symm h]

theorem apartB_sound {τ : Nat → Option Nat} : ∀ {l : List (Nat × Chunk)} {seen : List Nat}, apartB τ l seen = true →
    (∀ h ch x, (h, ch) ∈ l → τ h = some x → x ∉ seen) ∧ ∀ h ch h' ch' x, (h, ch) ∈ l → (h', ch') ∈ l → τ h = some x → τ h' = some x → h = h'
  | [], _, _ => ⟨fun _ _ _ h => (by cases h), fun _ _ _ _ _ h => (by cases h)⟩
  | (k, c) :: r, seen, e => by
    simp only [apartB] at e
    cases hk : τ k with
    | none =>
      simp only [hk] at e
      obtain ⟨h1, h2⟩ := apartB_sound e
      refine ⟨fun h ch x hm hx => ?_, fun h ch h' ch' x hm hm' hx hx' => ?_⟩
      · rcases List.mem_cons.1 hm with he | hm
        · simp only [Prod.mk.injEq] at he
          rw [he.1, hk] at hx; cases hx
        · exact h1 h ch x hm hx
      · rcases List.mem_cons.1 hm with he | hm
        · simp only [Prod.mk.injEq] at he
          rw [he.1, hk] at hx; cases hx
        · rcases List.mem_cons.1 hm' with he | hm'
          · simp only [Prod.mk.injEq] at he
            rw [he.1, hk] at hx'; cases hx'
          · exact h2 h ch h' ch' x hm hm' hx hx'
    | some y =>
      simp only [hk] at e
      cases hm : memB y seen with
      | true => simp [hm] at e
      | false =>
        simp only [hm, cond_false] at e
        obtain ⟨h1, h2⟩ := apartB_sound e
        have hy : y ∉ seen := fun h => by rw [(memB_iff y seen).2 h] at hm; cases hm
        refine ⟨fun h ch x hm hx => ?_, fun h ch h' ch' x hm hm' hx hx' => ?_⟩
        · rcases List.mem_cons.1 hm with he | hm
          · simp only [Prod.mk.injEq] at he
            rw [he.1, hk] at hx
            simp only [Option.some.injEq] at hx
            exact hx ▸ hy
          · exact fun hs => h1 h ch x hm hx (List.mem_cons_of_mem _ hs)
        · rcases List.mem_cons.1 hm with he | hm <;> rcases List.mem_cons.1 hm' with he' | hm'
          · simp only [Prod.mk.injEq] at he he'
            rw [he.1, he'.1]
          · simp only [Prod.mk.injEq] at he
            rw [he.1, hk] at hx
            simp only [Option.some.injEq] at hx
            exact absurd (hx ▸ List.mem_cons_self ..) (h1 h' ch' x hm' hx')
          · simp only [Prod.mk.injEq] at he'
            rw [he'.1, hk] at hx'
            simp only [Option.some.injEq] at hx'
            exact absurd (hx' ▸ List.mem_cons_self ..) (h1 h ch x hm hx)
          · exact h2 h ch h' ch' x hm hm' hx hx'

theorem entCh_at {nx : Nat} {τ : Nat → Option Nat} {chs : List (Nat × Chunk)} : ∀ {l : List (Nat × Chunk)}, allOf (entCh nx τ chs l) → ∀ h ch, (h, ch) ∈ l →
    h < nx ∧ allOf (match τ h with | none => ch.nil | some h' => match look chs h' with | some v' => ch.eqv nx τ v' | none => [False])
  | [], _, _, _, hm => by cases hm
  | (k, c) :: r, hv, h, ch, hm => by
    obtain ⟨h0, hv⟩ := hv
    rw [allOf_cat] at hv
    rcases List.mem_cons.1 hm with he | hm
    · simp only [Prod.mk.injEq] at he
      obtain ⟨rfl, rfl⟩ := he
      exact ⟨h0, hv.1⟩
    · exact entCh_at hv.2 h ch hm

/-- A chunk that is wanted lies where the one behind it lies. -/
theorem via_chunk {nx : Nat} {τ : Nat → Option Nat} (H : Mem F ρ S w chunks) {h : Nat} {ch : Chunk}
    (hv : allOf (match τ h with | none => ch.nil | some h' => match look chunks h' with | some v' => ch.eqv nx τ v' | none => [False])) : chunkSat (ρ.via nx τ) S w h ch := by
  cases hτ : τ h with
  | none =>
    simp only [hτ] at hv
    cases ch with
    | cells t cs => exact hv.1.elim
    | iter s p => exact hv.1.elim
    | row t sz n f => exact .inl ⟨by simp [Env.via, hτ], by simp [Env.via, hτ], hv.1⟩
  | some h' =>
    simp only [hτ] at hv
    cases hl : look chunks h' with
    | none => simp only [hl] at hv; exact hv.1.elim
    | some c' =>
      simp only [hl] at hv
      obtain ⟨_, hs⟩ := H.sat h' c' hl
      cases ch with
      | cells t cs =>
        cases c' with
        | row => exact hv.1.elim
        | iter => exact hv.1.elim
        | cells t' cs' =>
          obtain ⟨rfl, hv⟩ := hv
          obtain ⟨b, vs, h1, h2, h3⟩ := hs
          exact ⟨b, vs, by simp [Env.via, hτ, h1], h2, eqvL_den hv h3⟩
      | iter s p =>
        cases c' with
        | cells => exact hv.1.elim
        | row => exact hv.1.elim
        | iter s' p' =>
          obtain ⟨rfl, rfl, _⟩ := hv
          obtain ⟨b, h1, h2⟩ := hs
          exact ⟨b, by simp [Env.via, hτ, h1], h2⟩
      | row t sz n f =>
        cases c' with
        | cells => exact hv.1.elim
        | iter => exact hv.1.elim
        | row t' sz' n' f' =>
          obtain ⟨rfl, rfl, rfl, hv, _⟩ := hv
          rcases hs with ⟨h1, h2, h3⟩ | ⟨b, h1, vs, cap, h2, h3, h4, h5, h6, h7, h8⟩
          · exact .inl ⟨by simp [Env.via, hτ, h1], by simp [Env.via, hτ, h2], h3⟩
          · refine .inr ⟨b, by simp [Env.via, hτ, h1], vs, cap, by simp [Env.via, hτ, h2], h3, h4, h5, h6, h7, fun i j hi hj => ?_⟩
            rw [hv i j hi hj]
            exact h8 i j hi hj

theorem via_blk {nx : Nat} {τ : Nat → Option Nat} {h b : Nat} (hb : (ρ.via nx τ).blk h = some b) : ∃ h', τ h = some h' ∧ ρ.blk h' = some b := by
  simp only [Env.via, Option.bind_eq_some_iff] at hb
  exact hb

theorem via_look {nx : Nat} {τ : Nat → Option Nat} {h h' : Nat} {ch : Chunk} (hτ : τ h = some h')
    (hv : allOf (match τ h with | none => ch.nil | some h' => match look chunks h' with | some v' => ch.eqv nx τ v' | none => [False])) : ∃ c', look chunks h' = some c' := by
  simp only [hτ] at hv
  cases hl : look chunks h' with
  | none => simp only [hl] at hv; exact hv.1.elim
  | some c' => exact ⟨c', rfl⟩

theorem entEnv_at {nx : Nat} {τ : Nat → Option Nat} {env : List (Nat × TV)} : ∀ {l : List (Nat × TV)}, allOf (entEnv nx τ env l) → ∀ t v, look l t = some v → ∃ v', look env t = some v' ∧ allOf (v.eqv nx τ v')
  | [], _, _, _, hm => by cases hm
  | (k, c) :: r, hv, t, v, hm => by
    rw [entEnv, allOf_cat] at hv
    rw [look_cons] at hm
    split at hm
    · rename_i hk
      simp only [Option.some.injEq] at hm
      subst hk hm
      cases hl : look env k with
      | none => rw [hl] at hv; exact hv.1.1.elim
      | some v' => rw [hl] at hv; exact ⟨v', rfl, hv.1⟩
    · exact entEnv_at hv.2 t v hm

/-- The state at hand may be seen as the wanted one. -/
theorem Sat.seen0 (H : Sat F cx ρ S st a w) {b : Nat} {want : SS} (h : isA0 b st want) (h1 : F.ρ0.nx ≤ b) (h2 : b ≤ want.next) : ∃ ρ', Sat F cx ρ' S want a w := by
  unfold isA0 at h
  have hτ : ∀ k, k < b → tau b (coll3 b (collE st.env want.env) st.chunks want.chunks) k = some k := fun k hk => by simp [tau, hk]
  generalize tau b (coll3 b (collE st.env want.env) st.chunks want.chunks) = τ at h hτ
  rw [allP_iff] at h
  obtain ⟨⟨hap, h⟩, _⟩ := h
  rw [allOf_cat] at h
  obtain ⟨henv, hch⟩ := h
  have hat := entCh_at hch
  have hap' := (apartB_sound hap).2
  refine ⟨ρ.via want.next τ, ⟨⟨H.mem.os, H.mem.tape, H.mem.output, H.mem.size, ?_, H.mem.fr, H.mem.ro, ?_, ?_, ?_⟩, ?_, H.ntm, H.dfr, rfl, H.gl⟩⟩
  · refine ⟨Nat.le_trans h1 h2, fun k hk => ?_, fun k hk => ?_, H.mem.ext.sub, H.mem.ext.heap⟩
    · rw [← H.mem.ext.blk k hk]
      simp [Env.via, hτ k (by omega)]
    · rw [← H.mem.ext.sl k hk]
      simp [Env.via, hτ k (by omega)]
  · intro k c hl
    obtain ⟨h3, h4⟩ := hat k c (look_mem hl)
    exact ⟨h3, via_chunk H.mem h4⟩
  · intro k c b' hl hb
    obtain ⟨k', hk', hb'⟩ := via_blk hb
    obtain ⟨c', hc'⟩ := via_look hk' (hat k c (look_mem hl)).2
    exact H.mem.own k' c' b' hc' hb'
  · intro k k2 c c2 b' hl hl2 hb hb2
    obtain ⟨k', hk', hb'⟩ := via_blk hb
    obtain ⟨c', hc'⟩ := via_look hk' (hat k c (look_mem hl)).2
    obtain ⟨k2', hk2', hb2'⟩ := via_blk hb2
    obtain ⟨c2', hc2'⟩ := via_look hk2' (hat k2 c2 (look_mem hl2)).2
    have := H.mem.apart k' k2' c' c2' b' hc' hc2' hb' hb2'
    subst this
    exact hap' k c k2 c2 k' (look_mem hl) (look_mem hl2) hk' hk2'
  · intro t v hl
    obtain ⟨v', hv', hq⟩ := entEnv_at henv t v hl
    obtain ⟨h3, h4⟩ := H.env t v' hv'
    exact ⟨h3, TV.eqv_den hq h4⟩

/-! ### An own slice is given up -/
/-- What is known of the package's variables. -/
theorem CV.frz_den {S' : Nat → Prop} (hS : ∀ b, S b → S' b) {h sz n : Nat} {t : TypeId} {f : Nat → Nat → CV} (hc : chunkSat ρ S w h (.row t sz n f)) (hb : ∀ b, ρ.blk h = some b → S' b) {c : CV} {v : Value} (hd : c.den ρ S w v) :
    (c.frz h sz n f).den ρ S' w v := by
  have hext : ∀ c : CV, c.den ρ S w v → c.den ρ S' w v := fun c hd => by
    cases c <;> first | exact hd | exact CV.den0_ext hS (fun _ _ => rfl) _ _ hd
  cases c <;> first | exact hext _ hd | skip
  rename_i h'
  show CV.den ρ S' w (bif h' == h then .ro sz n f else .osl h') v
  cases hq : h' == h with
  | false => exact hext (.osl h') hd
  | true =>
    show CV.den ρ S' w (.ro sz n f) v
    have e : h' = h := by simpa using hq
    subst e
    obtain ⟨_, rfl, _⟩ := hd
    rcases hc with ⟨h1, h2, h3⟩ | ⟨b, h1, vs, cap, h2, h3, h4, h5, h6, h7, h8⟩
    · subst h3; exact ⟨none, 0, h2, by omega, fun hn => by omega⟩
    · refine ⟨some ⟨b, 0, none⟩, cap, h2, h3, fun _ => ⟨b, 0, rfl, hb b h1, fun i j hi hj => ?_⟩⟩
      obtain ⟨u, hu, hd⟩ := h8 i j hi hj
      refine ⟨u, ?_, CV.den0_ext hS (fun _ _ => rfl) _ _ hd⟩
      rw [Nat.zero_add]
      exact cell_of_heap h5 hu

theorem look_frzE {h sz n : Nat} {f : Nat → Nat → CV} : ∀ {env : List (Nat × TV)} {t : Nat} {v : TV}, look (frzE h sz n f env) t = some v → ∃ u, look env t = some u ∧ v = u.frz h sz n f
  | [], _, _, e => by cases e
  | (k, u) :: r, t, v, e => by
    simp only [frzE, look_cons] at e ⊢
    split at e
    · rename_i hk
      simp only [Option.some.injEq] at e
      exact ⟨u, by rw [if_pos hk], e.symm⟩
    · rename_i hk
      obtain ⟨u', h1, h2⟩ := look_frzE e
      exact ⟨u', by rw [if_neg hk]; exact h1, h2⟩
def Chunk.frz (h sz n : Nat) (f : Nat → Nat → CV) : Chunk → Chunk
  | .cells t cs => .cells t (frzL h sz n f cs)
  | c => c
theorem look_frzC {h sz n : Nat} {f : Nat → Nat → CV} : ∀ {chs : List (Nat × Chunk)} {k : Nat} {c : Chunk}, look (frzC h sz n f chs) k = some c → ∃ c', look chs k = some c' ∧ c = c'.frz h sz n f
  | [], _, _, e => by cases e
  | (i, .cells t cs) :: r, k, c, e => by
    simp only [frzC, look_cons] at e ⊢
    split at e
    · rename_i hk
      simp only [Option.some.injEq] at e
      exact ⟨.cells t cs, by rw [if_pos hk], e.symm⟩
    · rename_i hk
      obtain ⟨u', h1, h2⟩ := look_frzC e
      exact ⟨u', by rw [if_neg hk]; exact h1, h2⟩
  | (i, .iter s p) :: r, k, c, e => by
    simp only [frzC, look_cons] at e ⊢
    split at e
    · rename_i hk
      simp only [Option.some.injEq] at e
      exact ⟨.iter s p, by rw [if_pos hk], e.symm⟩
    · rename_i hk
      obtain ⟨u', h1, h2⟩ := look_frzC e
      exact ⟨u', by rw [if_neg hk]; exact h1, h2⟩
  | (i, .row t sz' n' g) :: r, k, c, e => by
    simp only [frzC, look_cons] at e ⊢
    split at e
    · rename_i hk
      simp only [Option.some.injEq] at e
      exact ⟨.row t sz' n' g, by rw [if_pos hk], e.symm⟩
    · rename_i hk
      obtain ⟨u', h1, h2⟩ := look_frzC e
      exact ⟨u', by rw [if_neg hk]; exact h1, h2⟩

theorem Sat.frz (H : Sat F cx ρ S st a w) (h : Nat) : ∃ S', Sat F cx ρ S' (st.frz h) a w := by
  unfold SS.frz
  split
  · rename_i t sz n f hl
    obtain ⟨hlt, hc⟩ := H.mem.sat h _ hl
    let S' : Nat → Prop := fun b => S b ∨ ρ.blk h = some b
    have hS : ∀ b, S b → S' b := fun b hb => .inl hb
    have hB : ∀ b, ρ.blk h = some b → S' b := fun b hb => .inr hb
    have hL : ∀ {cs : List CV} {us : List Value}, denL (CV.den ρ S w) cs us → denL (CV.den ρ S' w) (frzL h sz n f cs) us := by
      intro cs
      induction cs with
      | nil => intro us hd; cases us <;> exact hd
      | cons c cs ih => intro us hd; cases us with | nil => exact hd.elim | cons u us => exact ⟨CV.frz_den hS hc hB hd.1, ih hd.2⟩
    have hR : ∀ {c : RV} {v : Value}, c.den ρ S w v → (c.frz h sz n f).den ρ S' w v := by
      intro c v hd
      cases c with
      | c x => exact CV.frz_den hS hc hB hd
      | agg l => obtain ⟨vs, rfl, hl⟩ := hd; exact ⟨vs, rfl, hL hl⟩
    have hRs : ∀ {cs : List RV} {us : List Value}, denR (RV.den ρ S w) cs us → denR (RV.den ρ S' w) (frzR h sz n f cs) us := by
      intro cs
      induction cs with
      | nil => intro us hd; cases us <;> exact hd
      | cons c cs ih => intro us hd; cases us with | nil => exact hd.elim | cons u us => exact ⟨hR hd.1, ih hd.2⟩
    refine ⟨S', ⟨⟨H.mem.os, H.mem.tape, H.mem.output, H.mem.size, ⟨H.mem.ext.nx, H.mem.ext.blk, H.mem.ext.sl, fun b hb => hS b (H.mem.ext.sub b hb), H.mem.ext.heap⟩, H.mem.fr, ?_, ?_, ?_, ?_⟩, ?_, H.ntm, H.dfr, H.nxt, fun g c hg => CV.den0_ext hS (fun _ _ => rfl) _ _ (H.gl g c hg)⟩⟩
    · rintro b (hb | hb)
      · exact H.mem.ro b hb
      · exact ⟨H.mem.blk_lt hl hb, .inr (H.mem.own h _ b hl hb).2⟩
    · intro k c hk
      obtain ⟨c', hk', rfl⟩ := look_frzC hk
      rw [look_del _ _ _] at hk'
      split at hk'
      · cases hk'
      · obtain ⟨h1, h2⟩ := H.mem.sat k c' hk'
        refine ⟨h1, ?_⟩
        cases c' with
        | cells t' cs => obtain ⟨b, vs, h3, h4, h5⟩ := h2; exact ⟨b, vs, h3, h4, hL h5⟩
        | iter s p => exact h2
        | row t' sz' n' g =>
          rcases h2 with h2 | ⟨b, h3, vs, cap, h4, h5, h6, h7, h8, h9, h10⟩
          · exact .inl h2
          · refine .inr ⟨b, h3, vs, cap, h4, h5, h6, h7, h8, h9, fun i j hi hj => ?_⟩
            obtain ⟨u, hu, hd⟩ := h10 i j hi hj
            exact ⟨u, hu, CV.den0_ext hS (fun _ _ => rfl) _ _ hd⟩
    · intro k c b hk hb
      obtain ⟨c', hk', rfl⟩ := look_frzC hk
      rw [look_del _ _ _] at hk'
      split at hk'
      · cases hk'
      · rename_i hne
        obtain ⟨h1, h2⟩ := H.mem.own k c' b hk' hb
        refine ⟨?_, h2⟩
        rintro (h3 | h3)
        · exact h1 h3
        · exact hne (H.mem.apart h k _ c' b hl hk' h3 hb)
    · intro k k2 c c2 b hk hk2 hb hb2
      obtain ⟨c', hk', rfl⟩ := look_frzC hk
      obtain ⟨c2', hk2', rfl⟩ := look_frzC hk2
      rw [look_del _ _ _] at hk' hk2'
      split at hk'
      · cases hk'
      · split at hk2'
        · cases hk2'
        · exact H.mem.apart k k2 c' c2' b hk' hk2' hb hb2
    · intro t v hv
      obtain ⟨u, hu, rfl⟩ := look_frzE hv
      obtain ⟨h1, h2⟩ := H.env t u hu
      refine ⟨h1, ?_⟩
      cases u with
      | r x => exact hR h2
      | tup l => obtain ⟨vs, e, hl⟩ := h2; exact ⟨vs, e, hRs hl⟩
      | gd c x => exact ⟨fun hc => hR (h2.1 hc), h2.2⟩
      | it ok k c => exact h2
      | undef => exact h2
  · exact ⟨S, H⟩

theorem Sat.frzs : ∀ (hs : List Nat) {S : Nat → Prop} {st : SS}, Sat F cx ρ S st a w → ∃ S', Sat F cx ρ S' (st.frzs hs) a w
  | [], S, _, H => ⟨S, H⟩
  | h :: r, _, _, H => let ⟨_, H'⟩ := H.frz h; Sat.frzs r H'

theorem SS.frz_next (st : SS) (h : Nat) : (st.frz h).next = st.next := by
  unfold SS.frz
  split <;> rfl
theorem SS.frzs_next : ∀ (hs : List Nat) (st : SS), (st.frzs hs).next = st.next
  | [], _ => rfl
  | h :: r, st => (SS.frzs_next r (st.frz h)).trans (st.frz_next h)

/-- The state at hand may be seen as the wanted one. -/
theorem Sat.seen (H : Sat F cx ρ S st a w) {b : Nat} {want : SS} (h : isA b st want) (h1 : F.ρ0.nx ≤ b) (h2 : b ≤ want.next) : ∃ ρ' S', Sat F cx ρ' S' want a w := by
  obtain ⟨S', H'⟩ := Sat.frzs (givE st.env want.env) H
  obtain ⟨ρ', H2⟩ := H'.seen0 h h1 h2
  exact ⟨ρ', S', H2⟩

/-! ### Calls -/
/-- What is known of the package's variables. -/
def GlOk (gl : Nat → Option CV) (S : Nat → Prop) (w : World) : Prop := ∀ g c, gl g = some c → c.den0 S w (.pointer (some ⟨g, 0, none⟩))

/-- A function does as it is said. -/
def Does (P : Program) (gl : Nat → Option CV) (k : Nat) (s : Spec) : Prop :=
  ∀ (w0 : World) (ρ0 : Env) (S0 Fr : Nat → Prop) (hFr : ∀ b, Fr b → b < w0.heap.size) (a : s.α) (args : Array Value), ρ0.nx = s.m → Mem ⟨P, w0, ρ0, S0, Fr, hFr⟩ ρ0 S0 w0 (s.ins a) →
    denR (RV.den ρ0 S0 w0) (s.args a) args.toList → s.pre a → GlOk gl S0 w0 →
    Calls P k args w0 fun e w' => ∃ v b ρ' S', e = .returned v ∧ s.post a b ∧ Mem ⟨P, w0, ρ0, S0, Fr, hFr⟩ ρ' S' w' (s.outs a b) ∧ ρ'.nx = s.m + s.fresh ∧ (s.res a b).den ρ' S' w' v

/-- The handles behind a call. -/
def Env.after (ρ ρc : Env) (m fr : Nat) : Env :=
  ⟨ρ.nx + fr + m, fun h => if h < ρ.nx then ρ.blk h else if h < ρ.nx + fr then ρc.blk (m + (h - ρ.nx)) else ρc.blk (h - ρ.nx - fr),
    fun h => if h < ρ.nx then ρ.sl h else if h < ρ.nx + fr then ρc.sl (m + (h - ρ.nx)) else ρc.sl (h - ρ.nx - fr)⟩

/-- A renaming fits. -/
structure Rn (ρc ρ' : Env) (r : Nat → Nat) : Prop where
  lt : ∀ h, h < ρc.nx → r h < ρ'.nx
  blk : ∀ h, h < ρc.nx → ρ'.blk (r h) = ρc.blk h
  sl : ∀ h, h < ρc.nx → ρ'.sl (r h) = ρc.sl h

theorem CV.rn_den {ρc ρ' : Env} {r : Nat → Nat} (R : Rn ρc ρ' r) {c : CV} {v : Value} (h : c.den ρc S w v) : (c.rn r).den ρ' S w v := by
  cases c
  case ref hh o => obtain ⟨h1, b, h2, h3⟩ := h; exact ⟨R.lt _ h1, b, (R.blk _ h1).trans h2, h3⟩
  case osl hh => obtain ⟨h1, h2, h3⟩ := h; exact ⟨R.lt _ h1, h2.trans (R.sl _ h1).symm, h3⟩
  case rowp hh sz i j => obtain ⟨h1, b, h2, h3⟩ := h; exact ⟨R.lt _ h1, b, (R.blk _ h1).trans h2, h3⟩
  all_goals exact h

theorem rnL_den {ρc ρ' : Env} {r : Nat → Nat} (R : Rn ρc ρ' r) : ∀ {cs : List CV} {us : List Value}, denL (CV.den ρc S w) cs us → denL (CV.den ρ' S w) (rnL r cs) us
  | [], [], _ => trivial
  | [], _ :: _, h => h.elim
  | _ :: _, [], h => h.elim
  | _ :: _, _ :: _, h => ⟨CV.rn_den R h.1, rnL_den R h.2⟩

theorem RV.rn_den {ρc ρ' : Env} {r : Nat → Nat} (R : Rn ρc ρ' r) {c : RV} {v : Value} (h : c.den ρc S w v) : (c.rn r).den ρ' S w v := by
  cases c with
  | c x => exact CV.rn_den R h
  | agg l => obtain ⟨vs, rfl, hl⟩ := h; exact ⟨vs, rfl, rnL_den R hl⟩

theorem rnR_den {ρc ρ' : Env} {r : Nat → Nat} (R : Rn ρc ρ' r) : ∀ {cs : List RV} {us : List Value}, denR (RV.den ρc S w) cs us → denR (RV.den ρ' S w) (rnR r cs) us
  | [], [], _ => trivial
  | [], _ :: _, h => h.elim
  | _ :: _, [], h => h.elim
  | _ :: _, _ :: _, h => ⟨RV.rn_den R h.1, rnR_den R h.2⟩

theorem TV.rn_den {ρc ρ' : Env} {r : Nat → Nat} (R : Rn ρc ρ' r) {c : TV} {v : Value} (h : c.den ρc S w v) : (c.rn r).den ρ' S w v := by
  cases c with
  | r x => exact RV.rn_den R h
  | tup l => obtain ⟨vs, rfl, hl⟩ := h; exact ⟨vs, rfl, rnR_den R hl⟩
  | gd c x => exact ⟨fun hc => RV.rn_den R (h.1 hc), h.2⟩
  | it ok k c => exact h
  | undef => exact h

theorem chunk_rn {ρc ρ' : Env} {r : Nat → Nat} (R : Rn ρc ρ' r) {h : Nat} {ch : Chunk} (hh : h < ρc.nx) (hs : chunkSat ρc S w h ch) : chunkSat ρ' S w (r h) (ch.rn r) := by
  cases ch with
  | cells t cs =>
    obtain ⟨b, vs, h1, h2, h3⟩ := hs
    exact ⟨b, vs, (R.blk h hh).trans h1, h2, rnL_den R h3⟩
  | iter s p =>
    obtain ⟨b, h1, h2⟩ := hs
    exact ⟨b, (R.blk h hh).trans h1, h2⟩
  | row t sz n f =>
    rcases hs with ⟨h1, h2, h3⟩ | ⟨b, h1, h2⟩
    · exact .inl ⟨(R.blk h hh).trans h1, (R.sl h hh).trans h2, h3⟩
    · refine .inr ⟨b, (R.blk h hh).trans h1, ?_⟩
      rw [R.sl h hh]
      exact h2

theorem look_rnC {r : Nat → Nat} : ∀ {l : List (Nat × Chunk)} {k : Nat} {c : Chunk}, look (rnC r l) k = some c → ∃ h c0, look l h = some c0 ∧ r h = k ∧ c = c0.rn r
  | [], _, _, e => by cases e
  | (i, v) :: l, k, c, e => by
    simp only [rnC, look_cons] at e
    split at e
    · rename_i hk
      simp only [Option.some.injEq] at e
      exact ⟨i, v, by simp [look_cons], hk, e.symm⟩
    · rename_i hk
      obtain ⟨h, c0, h1, h2, h3⟩ := look_rnC e
      refine ⟨h, c0, ?_, h2, h3⟩
      rw [look_cons, if_neg (fun hi => hk (by rw [hi]; exact h2))]
      exact h1

theorem look_catE {α : Type} : ∀ {l m : List (Nat × α)} {k : Nat} {c : α}, look (catE l m) k = some c → look l k = some c ∨ look m k = some c
  | [], m, k, c, e => .inr e
  | (i, v) :: l, m, k, c, e => by
    simp only [catE, look_cons] at e ⊢
    split at e
    · rename_i hk; exact .inl (by rw [if_pos hk]; exact e)
    · rename_i hk; rw [if_neg hk]; exact look_catE e

theorem look_delIns {σ : List (Nat × Nat)} : ∀ {ins chs : List (Nat × Chunk)} {k : Nat} {c : Chunk}, look (delIns σ chs ins) k = some c → look chs k = some c ∧ ∀ h ch, (h, ch) ∈ ins → look σ h ≠ some k
  | [], chs, k, c, e => ⟨e, fun _ _ h => by cases h⟩
  | (i, v) :: ins, chs, k, c, e => by
    simp only [delIns] at e
    cases hσ : look σ i with
    | none =>
      simp only [hσ] at e
      obtain ⟨h1, h2⟩ := look_delIns e
      refine ⟨h1, fun h ch hm => ?_⟩
      rcases List.mem_cons.1 hm with he | hm
      · simp only [Prod.mk.injEq] at he; rw [he.1, hσ]; exact fun h => by cases h
      · exact h2 h ch hm
    | some i' =>
      simp only [hσ] at e
      obtain ⟨h1, h2⟩ := look_delIns e
      rw [look_del] at h1
      split at h1
      · cases h1
      · rename_i hne
        refine ⟨h1, fun h ch hm => ?_⟩
        rcases List.mem_cons.1 hm with he | hm
        · simp only [Prod.mk.injEq] at he
          rw [he.1, hσ]
          intro hq
          simp only [Option.some.injEq] at hq
          exact hne hq
        · exact h2 h ch hm
end
end Go.Sx
namespace Go.Sx
open Go

section
variable {F : Fx} {cx : Cx} {ρ : Env} {S : Nat → Prop} {st : SS} {a : Act} {w : World}

/-- What stood is as it was. -/
def Kept (w w' : World) : Prop := w.heap.size ≤ w'.heap.size ∧ ∀ b, b < w.heap.size → w'.heap[b]? = w.heap[b]?
theorem Kept.refl (w : World) : Kept w w := ⟨Nat.le_refl _, fun _ _ => rfl⟩
theorem Kept.trans {w w' w'' : World} (h : Kept w w') (h' : Kept w' w'') : Kept w w'' := ⟨Nat.le_trans h.1 h'.1, fun b hb => (h'.2 b (Nat.lt_of_lt_of_le hb h.1)).trans (h.2 b hb)⟩

theorem tau_zero (σ : List (Nat × Nat)) (h : Nat) : tau 0 σ h = look σ h := by simp [tau]

theorem Sat.call (H : Sat F cx ρ S st a w) {k : Nat} {s : Spec} (hD : Does F.P cx.gl k s) {sa : s.α} {vs : List RV} {args : Array Value} (hvs : denR (RV.den ρ S w) vs args.toList) {σ : List (Nat × Nat)}
    (hq : allOf (eqvR s.m (tau 0 σ) (s.args sa) vs)) (hap : apartB (tau 0 σ) (s.ins sa) [] = true) (hch : allOf (entCh s.m (tau 0 σ) st.chunks (s.ins sa))) (hp : s.pre sa) :
    Calls F.P k args w fun e w' => ∃ v b ρ' S', e = .returned v ∧ s.post sa b ∧
      Mem F ρ' S' w' (catE (rnC (rnH s.m s.fresh st.next σ) (s.outs sa b)) (delIns σ st.chunks (s.ins sa))) ∧ Ext ρ S w ρ' S' w' ∧ ρ'.nx = st.next + s.fresh + s.m ∧
      ((s.res sa b).rn (rnH s.m s.fresh st.next σ)).den ρ' S' w' v ∧ (s.ins sa = [] → Kept w w') := by
  have hat := entCh_at hch
  have hap' := (apartB_sound hap).2
  -- the blocks that are handed in
  let ins : Nat → Prop := fun b => ∃ h ch h', (h, ch) ∈ s.ins sa ∧ tau 0 σ h = some h' ∧ ρ.blk h' = some b
  have hins : ∀ b, ins b → ∃ h' c', look st.chunks h' = some c' ∧ ρ.blk h' = some b := fun b ⟨h, ch, h', hm, hτ, hb⟩ => by
    obtain ⟨c', hc'⟩ := via_look hτ (hat h ch hm).2
    exact ⟨h', c', hc', hb⟩
  let Frc : Nat → Prop := fun b => b < w.heap.size ∧ ¬ ins b
  have hFrc : ∀ b, Frc b → b < w.heap.size := fun b h => h.1
  have hFr' : ∀ b, F.Fr b → Frc b := fun b hb => ⟨Nat.lt_of_lt_of_le (F.hFr b hb) H.mem.size, fun hi => by
    obtain ⟨h', c', hl, hb'⟩ := hins b hi
    exact (H.mem.own h' c' b hl hb').2 hb⟩
  have hSFr : ∀ b, S b → Frc b := fun b hb => ⟨(H.mem.ro b hb).1, fun hi => by
    obtain ⟨h', c', hl, hb'⟩ := hins b hi
    exact (H.mem.own h' c' b hl hb').1 hb⟩
  have hm0 : Mem ⟨F.P, w, ρ.via s.m (tau 0 σ), S, Frc, hFrc⟩ (ρ.via s.m (tau 0 σ)) S w (s.ins sa) := by
    refine ⟨rfl, rfl, rfl, Nat.le_refl _, Ext.refl _ _ _, fun _ _ => rfl, fun b hb => ⟨(H.mem.ro b hb).1, .inl hb⟩, ?_, ?_, ?_⟩
    · intro h ch hl
      obtain ⟨h3, h4⟩ := hat h ch (look_mem hl)
      exact ⟨h3, via_chunk H.mem h4⟩
    · intro h ch b hl hb
      obtain ⟨h', hh', hb'⟩ := via_blk hb
      obtain ⟨c', hc'⟩ := via_look hh' (hat h ch (look_mem hl)).2
      exact ⟨(H.mem.own h' c' b hc' hb').1, fun hf => hf.2 ⟨h, ch, h', look_mem hl, hh', hb'⟩⟩
    · intro h h2 ch ch2 b hl hl2 hb hb2
      obtain ⟨h', hh', hb'⟩ := via_blk hb
      obtain ⟨c', hc'⟩ := via_look hh' (hat h ch (look_mem hl)).2
      obtain ⟨h2', hh2', hb2'⟩ := via_blk hb2
      obtain ⟨c2', hc2'⟩ := via_look hh2' (hat h2 ch2 (look_mem hl2)).2
      have := H.mem.apart h' h2' c' c2' b hc' hc2' hb' hb2'
      subst this
      exact hap' h ch h2 ch2 h' (look_mem hl) (look_mem hl2) hh' hh2'
  refine (hD w (ρ.via s.m (tau 0 σ)) S Frc hFrc sa args rfl hm0 (eqvR_den hq hvs) hp H.gl).mono ?_
  rintro e w' ⟨v, b, ρc, S', rfl, hpost, hm, hnx, hres⟩
  have hext := hm.ext
  have hR : Rn ρc (ρ.after ρc s.m s.fresh) (rnH s.m s.fresh st.next σ) := by
    have key : ∀ h, h < ρc.nx → rnH s.m s.fresh st.next σ h < (ρ.after ρc s.m s.fresh).nx ∧ (ρ.after ρc s.m s.fresh).blk (rnH s.m s.fresh st.next σ h) = ρc.blk h ∧
        (ρ.after ρc s.m s.fresh).sl (rnH s.m s.fresh st.next σ h) = ρc.sl h := by
      intro h hh
      unfold rnH
      by_cases hm' : h < s.m
      · rw [if_pos hm']
        have e1 : ρc.blk h = (ρ.via s.m (tau 0 σ)).blk h := hext.blk h hm'
        have e2 : ρc.sl h = (ρ.via s.m (tau 0 σ)).sl h := hext.sl h hm'
        cases hσ : look σ h with
        | none =>
          have hx : ¬ (st.next + s.fresh + h < ρ.nx) := by rw [H.nxt]; omega
          have hy : ¬ (st.next + s.fresh + h < ρ.nx + s.fresh) := by rw [H.nxt]; omega
          refine ⟨by simp only [Env.after]; rw [H.nxt]; omega, ?_, ?_⟩
          · simp only [Env.after, hx, hy, if_false]
            congr 1; rw [H.nxt]; omega
          · simp only [Env.after, hx, hy, if_false]
            congr 1; rw [H.nxt]; omega
        | some h' =>
          have hτ : tau 0 σ h = some h' := by rw [tau_zero, hσ]
          by_cases hlt : h' < st.next
          · have hlt' : h' < ρ.nx := by rw [H.nxt]; exact hlt
            rw [e1, e2]
            simp only [Env.via, hτ, Option.bind_some, hlt, if_true]
            refine ⟨by simp only [Env.after]; omega, ?_, ?_⟩
            · simp only [Env.after, hlt', if_true]
            · simp only [Env.after, hlt', if_true]
          · have hx : ¬ (st.next + s.fresh + h < ρ.nx) := by rw [H.nxt]; omega
            have hy : ¬ (st.next + s.fresh + h < ρ.nx + s.fresh) := by rw [H.nxt]; omega
            simp only [hlt, if_false]
            refine ⟨by simp only [Env.after]; rw [H.nxt]; omega, ?_, ?_⟩
            · simp only [Env.after, hx, hy, if_false]
              congr 1; rw [H.nxt]; omega
            · simp only [Env.after, hx, hy, if_false]
              congr 1; rw [H.nxt]; omega
      · rw [if_neg hm']
        rw [hnx] at hh
        have hx : ¬ (st.next + (h - s.m) < ρ.nx) := by rw [H.nxt]; omega
        have hy : st.next + (h - s.m) < ρ.nx + s.fresh := by rw [H.nxt]; omega
        refine ⟨by simp only [Env.after]; rw [H.nxt]; omega, ?_, ?_⟩
        · simp only [Env.after, hx, hy, if_false, if_true]
          congr 1; rw [H.nxt]; omega
        · simp only [Env.after, hx, hy, if_false, if_true]
          congr 1; rw [H.nxt]; omega
    exact ⟨fun h hh => (key h hh).1, fun h hh => (key h hh).2.1, fun h hh => (key h hh).2.2⟩
  have hE : Ext ρ S w (ρ.after ρc s.m s.fresh) S' w' :=
    ⟨by simp only [Env.after]; omega, fun h hh => by simp only [Env.after, hh, if_true], fun h hh => by simp only [Env.after, hh, if_true], hext.sub, hext.heap⟩
  -- what stood beside the call
  have hrest : ∀ h c, look (delIns σ st.chunks (s.ins sa)) h = some c → look st.chunks h = some c ∧ ∀ b, ρ.blk h = some b → Frc b := fun h c hl => by
    obtain ⟨h1, h2⟩ := look_delIns hl
    refine ⟨h1, fun b hb => ⟨H.mem.blk_lt h1 hb, ?_⟩⟩
    rintro ⟨k', ch, h', hm', hτ, hb'⟩
    obtain ⟨c', hc'⟩ := via_look hτ (hat k' ch hm').2
    have := H.mem.apart h h' c c' b h1 hc' hb hb'
    subst this
    exact h2 k' ch hm' (by rw [← tau_zero]; exact hτ)
  refine ⟨v, b, ρ.after ρc s.m s.fresh, S', rfl, hpost, ⟨hm.os.trans H.mem.os, hm.tape.trans H.mem.tape, hm.output.trans H.mem.output, Nat.le_trans H.mem.size hm.size, H.mem.ext.trans hE, ?_, ?_, ?_, ?_, ?_⟩, hE,
    by simp only [Env.after]; rw [H.nxt], TV.rn_den hR hres, fun hi => ⟨hm.size, fun b hb => hm.fr b ⟨hb, fun ⟨h, ch, h', hm', _, _⟩ => by rw [hi] at hm'; cases hm'⟩⟩⟩
  · intro b hb
    exact (hm.fr b (hFr' b hb)).trans (H.mem.fr b hb)
  · intro b hb
    obtain ⟨h1, h2⟩ := hm.ro b hb
    refine ⟨h1, ?_⟩
    rcases h2 with h2 | h2
    · exact (H.mem.ro b h2).2
    · exact .inr fun hf => h2 (hFr' b hf)
  · intro h c hl
    rcases look_catE hl with hl | hl
    · obtain ⟨h0, c0, h1, rfl, rfl⟩ := look_rnC hl
      obtain ⟨h3, h4⟩ := hm.sat h0 c0 h1
      exact ⟨hR.lt h0 h3, chunk_rn hR h3 h4⟩
    · obtain ⟨h1, h2⟩ := hrest h c hl
      obtain ⟨h3, h4⟩ := H.mem.sat h c h1
      exact ⟨Nat.lt_of_lt_of_le h3 hE.nx, chunkSat_ext hE h3 (fun b hb => hm.fr b (h2 b hb)) h4⟩
  · intro h c b hl hb
    rcases look_catE hl with hl | hl
    · obtain ⟨h0, c0, h1, rfl, rfl⟩ := look_rnC hl
      rw [hR.blk h0 (hm.sat h0 c0 h1).1] at hb
      obtain ⟨h3, h4⟩ := hm.own h0 c0 b h1 hb
      exact ⟨h3, fun hf => h4 (hFr' b hf)⟩
    · obtain ⟨h1, h2⟩ := hrest h c hl
      rw [hE.blk h (H.mem.sat h c h1).1] at hb
      obtain ⟨h3, h4⟩ := H.mem.own h c b h1 hb
      refine ⟨fun hS => ?_, h4⟩
      rcases (hm.ro b hS).2 with h5 | h5
      · exact h3 h5
      · exact h5 (h2 b hb)
  · intro h h' c c' b hl hl' hb hb'
    rcases look_catE hl with hl | hl <;> rcases look_catE hl' with hl' | hl'
    · obtain ⟨h0, c0, h1, rfl, rfl⟩ := look_rnC hl
      obtain ⟨h0', c0', h1', rfl, rfl⟩ := look_rnC hl'
      rw [hR.blk h0 (hm.sat h0 c0 h1).1] at hb
      rw [hR.blk h0' (hm.sat h0' c0' h1').1] at hb'
      rw [hm.apart h0 h0' c0 c0' b h1 h1' hb hb']
    · obtain ⟨h0, c0, h1, rfl, rfl⟩ := look_rnC hl
      rw [hR.blk h0 (hm.sat h0 c0 h1).1] at hb
      obtain ⟨h1', h2'⟩ := hrest h' c' hl'
      rw [hE.blk h' (H.mem.sat h' c' h1').1] at hb'
      exact absurd (h2' b hb') (hm.own h0 c0 b h1 hb).2
    · obtain ⟨h0', c0', h1', rfl, rfl⟩ := look_rnC hl'
      rw [hR.blk h0' (hm.sat h0' c0' h1').1] at hb'
      obtain ⟨h1, h2⟩ := hrest h c hl
      rw [hE.blk h (H.mem.sat h c h1).1] at hb
      exact absurd (h2 b hb) (hm.own h0' c0' b h1' hb').2
    · obtain ⟨h1, h2⟩ := hrest h c hl
      obtain ⟨h1', h2'⟩ := hrest h' c' hl'
      rw [hE.blk h (H.mem.sat h c h1).1] at hb
      rw [hE.blk h' (H.mem.sat h' c' h1').1] at hb'
      exact H.mem.apart h h' c c' b h1 h1' hb hb'
end
end Go.Sx
namespace Go.Sx
open Go

section
variable {F : Fx} {cx : Cx} {ρ : Env} {S : Nat → Prop} {st : SS} {a : Act} {w : World}

theorem dstB_ok {n : Nat} {d : Option Nat} (h : dstB n d = true) : ∀ x, d = some x → x < n := by
  intro x hx; subst hx; simpa [dstB] using h

/-- A new knowledge of one temporary, in a world that has turned. -/
theorem Sat.turn (H : Sat F cx ρ S st a w) {ρ' : Env} {S' : Nat → Prop} {w' : World} {ch : List (Nat × Chunk)} {nx : Nat} (hm : Mem F ρ' S' w' ch) (he : Ext ρ S w ρ' S' w') (hn : ρ'.nx = nx)
    {dst : Option Nat} (hd : ∀ d, dst = some d → d < cx.n) {tv : TV} {v : Value} (hv : tv.den ρ' S' w' v) : Sat F cx ρ' S' { (st.putT dst tv) with chunks := ch, next := nx } (a.put dst v) w' := by
  have hs : Sat F cx ρ' S' { st with chunks := ch, next := nx } a w' :=
    ⟨hm, fun t u hu => let ⟨h1, h2⟩ := H.env t u hu; ⟨h1, TV.den_ext he u _ h2⟩, H.ntm, H.dfr, hn, fun g c hg => CV.den0_ext he.sub he.heap _ _ (H.gl g c hg)⟩
  cases dst with
  | none => exact hs
  | some d => exact hs.setT (hd d rfl) hv

theorem getVs_den (H : Sat F cx ρ S st a w) {g : GC} (hg : g.wants = true) : ∀ {xs : List Operand} {vs : List RV} {ns : List Prop}, getVs cx st g xs = some (vs, ns) → allOf ns → denR (RV.den ρ S w) vs (xs.map a.eval)
  | [], vs, ns, h, _ => by
    simp only [getVs, Option.some.injEq, Prod.mk.injEq] at h
    obtain ⟨rfl, rfl⟩ := h
    trivial
  | x :: xs, vs, ns, h, hv => by
    simp only [getVs] at h
    split at h
    · rename_i v n vs' ns' hx hr
      simp only [Option.some.injEq, Prod.mk.injEq] at h
      obtain ⟨rfl, rfl⟩ := h
      rw [allOf_cat] at hv
      exact ⟨getV_den H hx hv.1 hg, getVs_den H hg hr hv.2⟩
    · cases h

/-- A function that has a body of its own. -/
def Callee (P : Program) (k : Nat) : Prop := ∃ fn, P.funcs[k]? = some fn ∧ (fn.name == "runtime.NumGoroutine") = false ∧ fn.body.isNone = false

theorem run_call {P : Program} {k : Nat} (hk : Callee P k) {o : Oper} {f : Operand} {args : Array Operand} {ts : Array TypeId} (ho : o.op = .call ⟨.value f, args, ts⟩) (hf : a.eval f = .func (.func k) #[] #[]) (w : World) :
    (execOp a.eval o).run P w = .ok (.enter k (args.map a.eval)) w := by
  obtain ⟨fn, h1, h2, h3⟩ := hk
  have h4 : ¬ (fn.name = "runtime.NumGoroutine") := by simpa using h2
  have h5 : ¬ (fn.body = none) := fun e => by rw [e] at h3; cases h3
  simp [execOp, ho, resolve, hf, Deferred.ofValue, invoke, callFunc, h1, h4, h5]

theorem loadOp_kind (pc : Nat → Bool) {g : GC} {op : Op} {vc : List Prop} {v : RV} (h : loadOp cx st g op = some (vc, v)) : opKind pc op = 1 := by
  cases op
  case load => rfl
  all_goals cases h

theorem stepOp_ok (pc : Nat → Bool) (H : Sat F cx ρ S st a w) (hT : TTok F.P cx.tt) {l : List Oper} {o : Oper} {vc : List Prop} {st' : SS} (h : stepOp cx l o st = .ok vc st') (hv : allOf vc) :
    (Region.wanted o (yielded l.toArray a.tmps) = true → ∃ v, (∀ w', (opKind pc o.op ≠ 0 → Kept w w') → (execOp a.eval o).run F.P w' = .ok (.value v) w') ∧ Sat F cx ρ S st' (a.put o.dst v) w) ∧
    (Region.wanted o (yielded l.toArray a.tmps) = false → Sat F cx ρ S st' (a.put o.dst undef) w) := by
  unfold stepOp at h
  split at h
  · rename_i c hu
    split at h
    · rename_i hd
      simp only [Out.ok.injEq] at h
      obtain ⟨rfl, rfl⟩ := h
      have hc : c = false := hv.1
      subst hc
      unfold undefd at hu
      split at hu
      · rename_i c' hg
        have hc' : c' = false := by
          cases hb : anyU cx st (opArgs o.op)
          · rw [hb] at hu; cases hu
          · rw [hb] at hu; exact Option.some.inj hu
        subst hc'
        have hw := gcond_wanted H l o (by rw [hg]; exact fun e => by cases e)
        rw [hg] at hw
        rw [hw]
        refine ⟨fun e => (by cases e), fun _ => ?_⟩
        cases hdst : o.dst with
        | none => exact H
        | some d => exact H.setT (dstB_ok hd d hdst) rfl
      · cases hu
    · cases h
  unfold stepOp0 at h
  split at h
  · cases h
  rename_i hd
  split at h
  · cases h
  · rename_i g hne
    generalize hg : gcond l st o = g at h hne
    have hw : Region.wanted o (yielded l.toArray a.tmps) = g.wants := by rw [gcond_wanted H l o (by rw [hg]; exact fun e => hne e), hg]
    rw [hw]
    have hd' := dstB_ok hd
    split at h
    · rename_i vc' v hp
      simp only [Out.ok.injEq] at h
      obtain ⟨rfl, rfl⟩ := h
      refine ⟨fun hg' => ?_, fun hg' => H.putU hd' hg'⟩
      obtain ⟨u, hu, hrun⟩ := pureOp_sound H hT o hp hv hg'
      exact ⟨u, fun w' _ => hrun w', H.put hd' hu hg'⟩
    · split at h
      · rename_i vc' v hp
        simp only [Out.ok.injEq] at h
        obtain ⟨rfl, rfl⟩ := h
        refine ⟨fun hg' => ?_, fun hg' => H.putU hd' hg'⟩
        obtain ⟨u, hu, hrun⟩ := loadOp_sound H hT o hp hv hg'
        exact ⟨u, fun w' hw' => hrun w' (hw' (by rw [loadOp_kind pc hp]; decide)).2, H.put hd' hu hg'⟩
      · split at h
        · cases h
        · have tup : ∀ x, (o.op = .move x ∨ o.op = .assign x) → (match evalO cx st x, g, o.dst with | some (.tup l), .always, some d => Out.ok [] { st with env := (d, .tup l) :: st.env } | _, _, _ => .fail) = .ok vc st' →
              (g.wants = true → ∃ v, (∀ w', (opKind pc o.op ≠ 0 → Kept w w') → (execOp a.eval o).run F.P w' = .ok (.value v) w') ∧ Sat F cx ρ S st' (a.put o.dst v) w) ∧ (g.wants = false → Sat F cx ρ S st' (a.put o.dst undef) w) := by
            intro x hx h
            split at h
            · rename_i l' d he hdst _ _ _
              simp only [Out.ok.injEq] at h
              obtain ⟨rfl, rfl⟩ := h
              refine ⟨fun _ => ⟨a.eval x, fun w' _ => by rcases hx with hx | hx <;> simp [execOp, hx], ?_⟩, fun hc => by cases hc⟩
              have hden : (TV.tup l').den ρ S w (a.eval x) := evalO_den H he
              rw [hdst]
              exact H.setT (hd' d hdst) hden
            · cases h
          split at h
          · rename_i x hx; exact tup x (.inl hx) h
          · rename_i x hx; exact tup x (.inr hx) h
          · split at h
            · split at h <;> cases h
            · cases h
          · cases h

/-- A nothing of chunks: every block that stands is to stay as it is. -/
theorem Mem.bare (hm : Mem F ρ S w st.chunks) : Mem ⟨F.P, w, ρ, S, fun b => b < w.heap.size, fun _ h => h⟩ ρ S w [] :=
  ⟨rfl, rfl, rfl, Nat.le_refl _, Ext.refl _ _ _, fun _ _ => rfl, fun b hb => ⟨(hm.ro b hb).1, .inl hb⟩, fun _ _ h => (by cases h), fun _ _ _ h => (by cases h), fun _ _ _ _ _ h => (by cases h)⟩
theorem Sat.bare (H : Sat F cx ρ S st a w) : Sat ⟨F.P, w, ρ, S, fun b => b < w.heap.size, fun _ h => h⟩ cx ρ S { st with chunks := [] } a w :=
  ⟨H.mem.bare, H.env, H.ntm, H.dfr, H.nxt, H.gl⟩

theorem getV_bare (g : GC) (x : Operand) : getV cx { st with chunks := [] } g x = getV cx st g x := rfl
theorem getPs_bare (g : GC) : ∀ xs, getPs cx { st with chunks := [] } g xs = getPs cx st g xs
  | [] => rfl
  | (i, x) :: r => by simp only [getPs, getPs_bare g r, getV_bare]

/-- Where an operation makes memory, what stood is as it was. -/
theorem memOp_kept (pc : Nat → Bool) (H : Sat F cx ρ S st a w) (hT : TTok F.P cx.tt) {vc : List Prop} {v : TV} {ch : List (Nat × Chunk)} {n : Nat} (o : Oper)
    (h : memOp cx st o.op = some (vc, v, ch, n)) (hv : allOf vc) (hk : opKind pc o.op ≤ 2) {nx : Next} {w' : World} (hrun : (execOp a.eval o).run F.P w = .ok nx w') : Kept w w' := by
  have key : ∀ {ch' n'}, memOp cx { st with chunks := [] } o.op = some (vc, v, ch', n') → Kept w w' := fun h' => by
    obtain ⟨nx', u, w2, ρ', hrun', _, hmem, _⟩ := memOp_sound H.bare hT o h' hv
    have : nx' = nx ∧ w2 = w' := by
      have := hrun'.symm.trans hrun
      simpa using this
    obtain ⟨rfl, rfl⟩ := this
    exact ⟨hmem.size, fun b hb => hmem.fr b hb⟩
  cases ho : o.op <;> rw [ho] at h hk <;> try (cases h; done)
  case alloc t =>
    simp only [memOp] at h
    split at h
    · rename_i hk
      simp only [Option.some.injEq, Prod.mk.injEq] at h
      obtain ⟨rfl, rfl, rfl, rfl⟩ := h
      exact key (ch' := _) (n' := _) (by simp only [ho, memOp, hk]; rfl)
    · cases h
  case box t x =>
    simp only [memOp] at h
    split at h
    · rename_i v' n' hx
      simp only [Option.some.injEq, Prod.mk.injEq] at h
      obtain ⟨rfl, rfl, rfl, rfl⟩ := h
      exact key (ch' := _) (n' := _) (by simp only [ho, memOp, getV_bare, hx]; rfl)
    · cases h
  case store => exact absurd hk (by simp [opKind])
  case buildSlice t m parts =>
    simp only [memOp] at h
    split at h
    · cases h
    · rename_i ps ns hps
      split at h
      · rename_i e he
        split at h
        · rename_i cs hkn hfl
          simp only [Option.some.injEq, Prod.mk.injEq] at h
          obtain ⟨rfl, rfl, rfl, rfl⟩ := h
          exact key (ch' := _) (n' := _) (by simp only [ho, memOp, getPs_bare, hps, he, hkn, hfl]; rfl)
        · cases h
      · cases h
  case makeSlice t l c =>
    simp only [memOp] at h
    split at h
    · rename_i p n1 q n2 e hl hc he
      split at h
      · cases h
      · rename_i hkn
        simp only [Option.some.injEq, Prod.mk.injEq] at h
        obtain ⟨rfl, rfl, rfl, rfl⟩ := h
        exact key (ch' := _) (n' := _) (by simp only [ho, memOp, getV_bare, hl, hc, he, hkn]; rfl)
    · cases h
  case range t x =>
    simp only [memOp] at h
    split at h
    · rename_i s n1 hx hs
      simp only [Option.some.injEq, Prod.mk.injEq] at h
      obtain ⟨rfl, rfl, rfl, rfl⟩ := h
      exact key (ch' := _) (n' := _) (by simp only [ho, memOp, getV_bare, hx, hs]; rfl)
    · cases h
  case next x iss =>
    cases iss with
    | false => cases h
    | true => exact absurd hk (by simp [opKind])
  case call c =>
    obtain ⟨f, args, ts⟩ := c
    cases f <;> try (cases h; done)
    rename_i b
    cases b <;> try (cases h; done)
    exact absurd hk (by simp [opKind])

theorem memOp_kind (pc : Nat → Bool) {op : Op} {r} (h : memOp cx st op = some r) : 2 ≤ opKind pc op := by
  cases op <;> try (cases h; done)
  case alloc => exact Nat.le_refl _
  case box => exact Nat.le_refl _
  case store => show 2 ≤ 3; omega
  case buildSlice => exact Nat.le_refl _
  case makeSlice => exact Nat.le_refl _
  case range => exact Nat.le_refl _
  case next x iss => show 2 ≤ 3; omega
  case call c =>
    obtain ⟨f, args, ts⟩ := c
    cases f <;> try (cases h; done)
    rename_i b
    cases b <;> try (cases h; done)
    show 2 ≤ 3; omega
end
end Go.Sx
namespace Go.Sx
open Go

section
variable {F : Fx} {cx : Cx} {ρ : Env} {S : Nat → Prop} {st : SS} {a : Act} {w : World}

theorem stepOp_mem {l : List Oper} {o : Oper} {vc : List Prop} {v : TV} {ch : List (Nat × Chunk)} {n : Nat} (h : stepOp cx l o st = .mem vc v ch n) :
    (∀ d, o.dst = some d → d < cx.n) ∧ gcond l st o ≠ .bad ∧ memOp cx st o.op = some (vc, v, ch, n) := by
  unfold stepOp at h
  split at h
  · split at h <;> cases h
  unfold stepOp0 at h
  split at h
  · cases h
  rename_i hd
  split at h
  · cases h
  · rename_i g hne
    refine ⟨dstB_ok hd, fun e => hne e, ?_⟩
    split at h
    · cases h
    · split at h
      · cases h
      · split at h
        · rename_i hm
          simp only [Out.mem.injEq] at h
          obtain ⟨rfl, rfl, rfl, rfl⟩ := h
          exact hm
        · split at h
          · split at h <;> cases h
          · split at h <;> cases h
          · split at h
            · split at h <;> cases h
            · cases h
          · cases h

theorem stepOp_call {l : List Oper} {o : Oper} {k : Nat} {vs : List RV} {vc : List Prop} (h : stepOp cx l o st = .call k vs vc) :
    (∀ d, o.dst = some d → d < cx.n) ∧ gcond l st o ≠ .bad ∧ ∃ f args ts fv, o.op = .call ⟨.value f, args, ts⟩ ∧ evalO cx st f = some fv ∧ funcOf fv = some k ∧ getVs cx st (gcond l st o) args.toList = some (vs, vc) := by
  unfold stepOp at h
  split at h
  · split at h <;> cases h
  unfold stepOp0 at h
  split at h
  · cases h
  rename_i hd
  split at h
  · cases h
  · rename_i g hne
    refine ⟨dstB_ok hd, fun e => hne e, ?_⟩
    split at h
    · cases h
    · split at h
      · cases h
      · split at h
        · cases h
        · split at h
          · split at h <;> cases h
          · split at h <;> cases h
          · rename_i f args ts ho
            split at h
            · rename_i fv hfv
              split at h
              · rename_i hk hvs
                simp only [Out.call.injEq] at h
                obtain ⟨rfl, rfl, rfl⟩ := h
                exact ⟨f, args, ts, fv, ho, hfv, hk, hvs⟩
              · cases h
            · cases h
          · cases h

theorem funcOf_den {fv : TV} {k : Nat} {v : Value} (h : funcOf fv = some k) (hd : fv.den ρ S w v) : v = .func (.func k) #[] #[] := by
  unfold funcOf at h
  split at h
  · rename_i k' x y
    split at h
    · rename_i h1 h2
      simp only [Option.some.injEq] at h
      subst h
      have e1 : x = #[] := by rw [← Array.toArray_toList (xs := x), h1]
      have e2 : y = #[] := by rw [← Array.toArray_toList (xs := y), h2]
      subst e1 e2
      exact hd.1
    · cases h
  · cases h

theorem wpList_cons {P : Program} {ops : Array Oper} {Q : Exit → Act → World → Prop} {o : Oper} {r : List Oper}
    (h1 : Region.wanted o (yielded ops a.tmps) = true → o.wp P a w (wpList P ops Q r) Q) (h2 : Region.wanted o (yielded ops a.tmps) = false → wpList P ops Q r (a.put o.dst undef) w) : wpList P ops Q (o :: r) a w := by
  unfold wpList
  split
  · rename_i h; exact .inl (h1 h)
  · rename_i h; exact h2 (by simpa using h)

theorem wp_swap {P : Program} {o : Oper} {N N' : Act → World → Prop} {Q Q' : Exit → Act → World → Prop} (hN : ∀ a w, N a w → N' a w) (hP : ∀ c a w, Q (.panic c) a w → Q' (.panic c) a w) (hO : ∀ a w, Q .outgrown a w → Q' .outgrown a w)
    (h : o.wp P a w N Q) : o.wp P a w N' Q' := by
  have hL : LetsOut Q → LetsOut Q' := fun ⟨a, w, h⟩ => ⟨a, w, hO a w h⟩
  unfold Oper.wp at *
  generalize (execOp a.eval o).run P w = r at *
  cases r with
  | ok n w' =>
    cases n <;> simp only [Oper.upon] at h ⊢
    case value u => exact hN _ _ h
    case skip => exact hN _ _ h
    case defer d => exact hN _ _ h
    case enter f args =>
      refine Calls.mono h fun e w'' he => ?_
      cases e with
      | returned u => exact hN _ _ he
      | panicked c => exact hP _ _ _ he
      | outgrown => exact hL he
    case row row args => exact Rows.mono h fun u w'' he => hN _ _ he
    all_goals exact h
  | halt x w' =>
    cases x <;> simp only [Oper.upon] at h ⊢
    case panic u => exact hP _ _ _ h
    all_goals first | exact h | exact hL h

/-- One operation, as it was executed. -/
def Op1 (F : Fx) (pc : Nat → Bool) (l : List Oper) (o : Oper) (N : Act → World → Prop) (Q : Exit → Act → World → Prop) (a : Act) (w : World) : Prop :=
  (Region.wanted o (yielded l.toArray a.tmps) = false → N (a.put o.dst undef) w) ∧
  (Region.wanted o (yielded l.toArray a.tmps) = true →
    (opKind pc o.op ≤ 1 → ∃ v, (∀ w', (opKind pc o.op ≠ 0 → Kept w w') → (execOp a.eval o).run F.P w' = .ok (.value v) w') ∧ N (a.put o.dst v) w) ∧
    (2 ≤ opKind pc o.op → o.wp F.P a w (fun a' w' => (opKind pc o.op ≤ 2 → Kept w w') ∧ N a' w') Q))

theorem Op1.wp {pc : Nat → Bool} {l : List Oper} {o : Oper} {N : Act → World → Prop} {Q : Exit → Act → World → Prop} (h : Op1 F pc l o N Q a w) (hw : Region.wanted o (yielded l.toArray a.tmps) = true) :
    o.wp F.P a w (fun a' w' => (opKind pc o.op ≤ 2 → Kept w w') ∧ N a' w') Q := by
  by_cases hk : opKind pc o.op ≤ 1
  · obtain ⟨v, h1, h2⟩ := (h.2 hw).1 hk
    unfold Oper.wp
    rw [h1 w (fun _ => Kept.refl w)]
    exact ⟨fun _ => Kept.refl w, h2⟩
  · exact (h.2 hw).2 (by omega)

/-! ### Orders -/
section
variable {P : Program} {ops : Array Oper} {Q : Exit → Act → World → Prop} {pc : Nat → Bool}

/-- Whatever order is picked from here on; what does not write leaves what stood as it was. -/
def wpAnyK (P : Program) (pc : Nat → Bool) (ops : Array Oper) (Q : Exit → Act → World → Prop) : Nat → Array Bool → Act → World → Prop
  | 0, listed, a, w => Region.ready .any ops listed = [] ∧ Q .normal a w
  | fuel + 1, listed, a, w =>
    (Region.ready .any ops listed = [] → Q .normal a w) ∧
    ∀ i ∈ Region.ready .any ops listed, wpOp P ops Q i (fun a' w' => (∀ o, ops[i]? = some o → opKind pc o.op ≤ 2 → Kept w w') ∧ wpAnyK P pc ops Q fuel (listed.setIfInBounds i true) a' w') a w

theorem wpAny_of_K : ∀ (fuel : Nat) (listed : Array Bool) (a : Act) (w : World), wpAnyK P pc ops Q fuel listed a w → wpAny P .any ops Q fuel listed a w
  | 0, _, _, _, h => h
  | fuel + 1, _, _, _, h => ⟨h.1, fun i hi => wpOp_mono (fun a' w' h' => wpAny_of_K fuel _ a' w' h'.2) (h.2 i hi)⟩

/-- What has come up waited for nothing that has not. -/
def Down (ops : Array Oper) (listed : Array Bool) : Prop := ∀ k o, listed.getD k false = true → ops[k]? = some o → ∀ e ∈ o.after, Region.binds .any e = true → listed.getD e.on false = true

theorem Down.set {listed : Array Bool} (h : Down ops listed) {i : Nat} (hr : i ∈ Region.ready .any ops listed) : Down ops (listed.setIfInBounds i true) := by
  intro k o hk ho e he hb
  obtain ⟨_, o', ho', hall⟩ := mem_ready.1 hr
  by_cases hik : i = k
  · subst hik
    rw [ho] at ho'
    simp only [Option.some.injEq] at ho'
    subst ho'
    exact getD_set_true (hall e he hb)
  · rw [getD_set_ne false hik] at hk
    exact getD_set_true (h k o hk ho e he hb)

theorem waits_not {listed : Array Bool} (h : Down ops listed) {i : Nat} (hi : listed.getD i false = false) : ∀ (n j : Nat), waitsB ops n j i = true → listed.getD j false = false ∧ j ∉ Region.ready .any ops listed
  | 0, _, hw => by cases hw
  | n + 1, j, hw => by
    simp only [waitsB] at hw
    cases ho : ops[j]? with
    | none => simp [ho] at hw
    | some o =>
      simp only [ho] at hw
      obtain ⟨e, he, hb⟩ := Array.any_eq_true'.1 hw
      simp only [Bool.and_eq_true, Bool.or_eq_true, beq_iff_eq] at hb
      have hun : listed.getD e.on false = false := by
        rcases hb.2 with hb2 | hb2
        · rw [hb2]; exact hi
        · exact (waits_not h hi n e.on hb2).1
      constructor
      · cases hl : listed.getD j false with
        | false => rfl
        | true =>
          have := h j o hl ho e he hb.1
          rw [hun] at this
          cases this
      · intro hr
        obtain ⟨_, o', ho', hall⟩ := mem_ready.1 hr
        rw [ho] at ho'
        simp only [Option.some.injEq] at ho'
        subst ho'
        have := hall e he hb.1
        rw [hun] at this
        cases this

theorem lateB_spec {listed : Array Bool} {i : Nat} (h : lateB pc ops listed i = true) {j : Nat} {o : Oper} (ho : ops[j]? = some o) (hne : j ≠ i) (hun : listed.getD j true = false) (hk : ¬ opKind pc o.op ≤ 2) : waitsB ops ops.size j i = true := by
  simp only [lateB, List.all_eq_true, List.mem_range] at h
  have := h j (Array.getElem?_eq_some_iff.1 ho).1
  simp only [ho, Bool.or_eq_true, beq_iff_eq, hne, hun, decide_eq_true_eq, hk, false_or, Bool.false_eq_true] at this
  exact this

theorem getD_false_of_true {listed : Array Bool} {i : Nat} (h : listed.getD i true = false) : listed.getD i false = false := by
  rcases Nat.lt_or_ge i listed.size with h' | h'
  · simpa [h'] using h
  · simp [Array.getElem?_eq_none h']

theorem wpAnyK_first {i : Nat} {oi : Oper} {v : Value} (ld : Bool) (hi : ops[i]? = some oi) (hsel : ∀ (j : Nat) (o : Oper) cs b, ops[j]? = some o → o.op ≠ .select cs b)
    (hQ : ∀ c a w, Q (.panic c) (a.put oi.dst v) w → Q (.panic c) a w) :
    ∀ (fuel : Nat) (listed : Array Bool) (a : Act) (w : World),
      (∀ j oj, ops[j]? = some oj → j ≠ i → listed.getD j true = false → (∀ e ∈ oj.after, Region.binds .any e = true → e.on ≠ i) → oi.apart ops oj = true) →
      (ld = true → ∀ j oj, ops[j]? = some oj → j ≠ i → listed.getD j true = false → ¬ opKind pc oj.op ≤ 2 → waitsB ops ops.size j i = true) → Down ops listed →
      i ∈ Region.ready .any ops listed → YieldsIf P ops (fun w' => ld = true → Kept w w') oi v a →
      wpAnyK P pc ops Q fuel (listed.setIfInBounds i true) (a.put oi.dst v) w → wpAnyK P pc ops Q (fuel + 1) listed a w := by
  intro fuel
  induction fuel with
  | zero =>
    intro listed a w _ _ _ hr hy H
    refine ⟨fun h => (by rw [h] at hr; cases hr), fun j hj => ?_⟩
    by_cases hji : j = i
    · subst hji; exact hy.wpOp hi (fun _ => Kept.refl w) ⟨fun _ _ _ => Kept.refl w, H⟩
    · have := ready_mono hj hji
      rw [H.1] at this
      cases this
  | succ fuel ih =>
    intro listed a w hfree hlate hdown hr hy H
    refine ⟨fun h => (by rw [h] at hr; cases hr), fun j hj => ?_⟩
    by_cases hji : j = i
    · subst hji; exact hy.wpOp hi (fun _ => Kept.refl w) ⟨fun _ _ _ => Kept.refl w, H⟩
    · have h1 := H.2 j (ready_mono hj hji)
      obtain ⟨hjun, oj, hoj, hall⟩ := mem_ready.1 hj
      have hiun := getD_false_of_true (mem_ready.1 hr).1
      have hnot : ∀ e ∈ oj.after, Region.binds .any e = true → e.on ≠ i := fun e he hb heq => by
        have h1 := hall e he hb
        rw [heq, hiun] at h1
        cases h1
      have hkind : ld = true → opKind pc oj.op ≤ 2 := fun hld => Classical.byContradiction fun hk => (waits_not hdown hiun _ j (hlate hld j oj hoj hji hjun hk)).2 hj
      have h2 := wpOp_putIf hoj (hfree j oj hoj hji hjun hnot) (fun cs b => hsel i oi cs b hi) (fun cs b => hsel j oj cs b hoj) hQ hy h1
      have hun' : ∀ k, (listed.setIfInBounds j true).getD k true = false → listed.getD k true = false := fun k hun => by
        by_cases hjk : j = k
        · subst hjk; exact hjun
        · rw [getD_set_ne true hjk] at hun; exact hun
      refine wpOp_mono (fun a' w' h3 => ?_) h2
      obtain ⟨hy', hkept, hK⟩ := h3
      have hkept : ld = true → Kept w w' := fun hld => hkept oj hoj (hkind hld)
      refine ⟨fun o ho hk => ?_, ?_⟩
      · exact (by assumption : (∀ o, ops[j]? = some o → opKind pc o.op ≤ 2 → Kept w w')) o ho hk
      · refine ih (listed.setIfInBounds j true) a' w' (fun k ok hk hki hun hno => hfree k ok hk hki (hun' k hun) hno) (fun hld k ok hk hki hun hkk => hlate hld k ok hk hki (hun' k hun) hkk) (hdown.set hj)
          (ready_mono hr (Ne.symm hji)) (hy'.imp (fun ⟨h4, h5⟩ => ⟨h4, fun w'' h6 => h5 w'' fun hld => (hkept hld).trans (h6 hld)⟩) id) ?_
        rw [Array.setIfInBounds_comm _ _ hji]
        exact hK

theorem wpAnyK_take {i : Nat} {oi : Oper} {v : Value} {fuel : Nat} {listed : Array Bool} {a : Act} {w : World} (ld : Bool) (hi : ops[i]? = some oi)
    (hs : Region.noSelect ops = true) (hf : Region.free .any ops listed i = true) (hr : (Region.ready .any ops listed).contains i = true) (hl : ld = true → lateB pc ops listed i = true) (hd : Down ops listed)
    (hQ : ∀ c a w, Q (.panic c) (a.put oi.dst v) w → Q (.panic c) a w) (hy : YieldsIf P ops (fun w' => ld = true → Kept w w') oi v a)
    (h : wpAnyK P pc ops Q fuel (listed.setIfInBounds i true) (a.put oi.dst v) w) : wpAnyK P pc ops Q (fuel + 1) listed a w :=
  wpAnyK_first ld hi (Region.noSelect_spec hs) hQ fuel listed a w (Region.free_spec hi hf) (fun hld j oj hj hne hun hk => lateB_spec (hl hld) hj hne hun hk) hd (by simpa using hr) hy h

theorem wpAnyK_all {rs : List Nat} {fuel : Nat} {listed : Array Bool} {a : Act} {w : World} (hr : Region.ready .any ops listed = rs) (hne : rs ≠ [])
    (h : ∀ i ∈ rs, wpOp P ops Q i (fun a' w' => (∀ o, ops[i]? = some o → opKind pc o.op ≤ 2 → Kept w w') ∧ wpAnyK P pc ops Q fuel (listed.setIfInBounds i true) a' w') a w) : wpAnyK P pc ops Q (fuel + 1) listed a w :=
  ⟨fun h0 => absurd (hr ▸ h0) hne, hr ▸ h⟩

theorem wpAnyK_done {listed : Array Bool} {a : Act} {w : World} (hr : Region.ready .any ops listed = []) (h : Q .normal a w) : ∀ fuel, wpAnyK P pc ops Q fuel listed a w
  | 0 => ⟨hr, h⟩
  | _ + 1 => ⟨fun _ => h, by rw [hr]; simp⟩
end

/-- What is still to be done, as a post-condition. -/
def ctx (F : Fx) (cx : Cx) (pc : Nat → Bool) (fn : Func) (R : Ending → World → Prop) : List It → Exit → Act → World → Prop
  | [] => bodyPost F.P fn R
  | .code c :: k => Exit.then (c.wp F.P (ctx F cx pc fn R k)) (ctx F cx pc fn R k)
  | .ops l r :: k => Exit.then (wpList F.P l.toArray (ctx F cx pc fn R k) r) (ctx F cx pc fn R k)
  | .op1 l o :: k => Exit.then (Op1 F pc l o (ctx F cx pc fn R k .normal) (ctx F cx pc fn R k)) (ctx F cx pc fn R k)
  | .op2 l o :: k => Exit.then (Op1 F pc l o (ctx F cx pc fn R k .normal) (ctx F cx pc fn R k)) (ctx F cx pc fn R k)
  | .ord l o :: k => Exit.then (fun a w => ∀ listed fuel, chkO pc l.toArray o listed = true → Region.noSelect l.toArray = true → o.len ≤ fuel → Down l.toArray listed →
      wpAnyK F.P pc l.toArray (ctx F cx pc fn R k) fuel listed a w) (ctx F cx pc fn R k)
  | .again n c :: k => Exit.then (Code.rounds F.P c (ctx F cx pc fn R k) n) (ctx F cx pc fn R k)
  | .blk id :: k => Exit.inBlock id (ctx F cx pc fn R k)
  | .back i st0 x :: k => Exit.then (fun a w => ∃ x', i.pre x' ∧ i.μ x' < i.μ x ∧ Good F cx (st0.at i x') a w) (ctx F cx pc fn R k)
  | .cut i st0 :: k => Exit.then (fun a w => ∃ x', i.pre x' ∧ Good F cx (st0.at i x') a w) (ctx F cx pc fn R k)

theorem ctx_ret {pc : Nat → Bool} {fn : Func} {R : Ending → World → Prop} : ∀ (k : List It), bodyPost F.P fn R .ret a w → ctx F cx pc fn R k .ret a w
  | [], h => h
  | .code _ :: k, h => ctx_ret k h
  | .ops _ _ :: k, h => ctx_ret k h
  | .op1 _ _ :: k, h => ctx_ret k h
  | .op2 _ _ :: k, h => ctx_ret k h
  | .again _ _ :: k, h => ctx_ret k h
  | .ord _ _ :: k, h => ctx_ret k h
  | .blk _ :: k, h => ctx_ret k h
  | .back _ _ _ :: k, h => ctx_ret k h
  | .cut _ _ :: k, h => ctx_ret k h

theorem ctx_panic {pc : Nat → Bool} {fn : Func} {R : Ending → World → Prop} {c : List PanicEntry} : ∀ (k : List It) (d : Option Nat) (v : Value) (a : Act) (w : World), ctx F cx pc fn R k (.panic c) (a.put d v) w → ctx F cx pc fn R k (.panic c) a w
  | [], d, v, a, w, h => by
    have : (a.put d v).defers = a.defers := by cases d <;> rfl
    obtain ⟨h1, h2⟩ := h
    exact ⟨this ▸ h1, h2⟩
  | .code _ :: k, d, v, a, w, h => ctx_panic k d v a w h
  | .ops _ _ :: k, d, v, a, w, h => ctx_panic k d v a w h
  | .op1 _ _ :: k, d, v, a, w, h => ctx_panic k d v a w h
  | .op2 _ _ :: k, d, v, a, w, h => ctx_panic k d v a w h
  | .again _ _ :: k, d, v, a, w, h => ctx_panic k d v a w h
  | .ord _ _ :: k, d, v, a, w, h => ctx_panic k d v a w h
  | .blk _ :: k, d, v, a, w, h => ctx_panic k d v a w h
  | .back _ _ _ :: k, d, v, a, w, h => ctx_panic k d v a w h
  | .cut _ _ :: k, d, v, a, w, h => ctx_panic k d v a w h

theorem ctx_exit {pc : Nat → Bool} {fn : Func} {R : Ending → World → Prop} {id : Nat} : ∀ (k k' : List It), exitIt id k = some k' → ctx F cx pc fn R k' .normal a w → ctx F cx pc fn R k (.exit id) a w
  | [], _, h, _ => by cases h
  | .code _ :: k, k', h, hh => ctx_exit k k' h hh
  | .ops _ _ :: k, k', h, hh => ctx_exit k k' h hh
  | .op1 _ _ :: k, k', h, hh => ctx_exit k k' h hh
  | .op2 _ _ :: k, k', h, hh => ctx_exit k k' h hh
  | .again _ _ :: k, k', h, hh => ctx_exit k k' h hh
  | .ord _ _ :: k, k', h, hh => ctx_exit k k' h hh
  | .blk id' :: k, k', h, hh => by
    simp only [exitIt] at h
    show Exit.inBlock id' (ctx F cx pc fn R k) (.exit id) a w
    by_cases e : id' = id
    · subst e
      simp only [beq_self_eq_true, cond_true, Option.some.injEq] at h
      subst h
      simpa [Exit.inBlock] using hh
    · have : (id' == id) = false := by simpa using e
      simp only [this, cond_false] at h
      simp only [Exit.inBlock]
      rw [if_neg (Ne.symm e)]
      exact ctx_exit k k' h hh
  | .back _ _ _ :: k, k', h, hh => ctx_exit k k' h hh
  | .cut _ _ :: k, k', h, hh => ctx_exit k k' h hh

section
variable {pc : Nat → Bool} {fn : Func} {R : Ending → World → Prop}

/-- One operation of an ordered region. -/
theorem ord_step {l : List Oper} {k : List It} {i : Nat} {o : Oper} {r : Ord} {listed : Array Bool} {fuel : Nat} (hi : l[i]? = some o)
    (h : Op1 F pc l o (ctx F cx pc fn R (.ord l r :: k) .normal) (ctx F cx pc fn R (.ord l r :: k)) a w)
    (hc : chkO pc l.toArray r (listed.setIfInBounds i true) = true) (hns : Region.noSelect l.toArray = true) (hf : r.len ≤ fuel) (hd : Down l.toArray listed) (hr : i ∈ Region.ready .any l.toArray listed) :
    wpOp F.P l.toArray (ctx F cx pc fn R k) i (fun a' w' => (∀ o, l.toArray[i]? = some o → opKind pc o.op ≤ 2 → Kept w w') ∧ wpAnyK F.P pc l.toArray (ctx F cx pc fn R k) fuel (listed.setIfInBounds i true) a' w') a w := by
  unfold wpOp
  have hi' : l.toArray[i]? = some o := by simpa using hi
  simp only [hi']
  have hnext : ∀ a' w', (opKind pc o.op ≤ 2 → Kept w w') → ctx F cx pc fn R (.ord l r :: k) .normal a' w' →
      (∀ o', some o = some o' → opKind pc o'.op ≤ 2 → Kept w w') ∧ wpAnyK F.P pc l.toArray (ctx F cx pc fn R k) fuel (listed.setIfInBounds i true) a' w' :=
    fun a' w' hk hh => ⟨fun o' ho' => by simp only [Option.some.injEq] at ho'; subst ho'; exact hk, hh _ fuel hc hns hf (hd.set hr)⟩
  split
  · rename_i hw
    left
    by_cases hk : opKind pc o.op ≤ 1
    · obtain ⟨v, h1, h2⟩ := (h.2 hw).1 hk
      unfold Oper.wp
      rw [h1 w (fun _ => Kept.refl w)]
      exact hnext _ _ (fun _ => Kept.refl w) h2
    · exact wp_swap (fun a' w' (h' : (opKind pc o.op ≤ 2 → Kept w w') ∧ ctx F cx pc fn R (.ord l r :: k) .normal a' w') => hnext a' w' h'.1 h'.2) (fun _ _ _ h => h) (fun _ _ h => h) ((h.2 hw).2 (by omega))
  · rename_i hw
    exact hnext _ _ (fun _ => Kept.refl w) (h.1 (by simpa using hw))

theorem ord_go {l : List Oper} {k : List It} {i : Nat} {o : Oper} {r : Ord} {listed : Array Bool} {fuel : Nat} (hi : l[i]? = some o)
    (h : Op1 F pc l o (ctx F cx pc fn R (.ord l r :: k) .normal) (ctx F cx pc fn R (.ord l r :: k)) a w)
    (hc : chkO pc l.toArray (.go i r) listed = true) (hns : Region.noSelect l.toArray = true) (hf : r.len ≤ fuel) (hd : Down l.toArray listed) :
    wpAnyK F.P pc l.toArray (ctx F cx pc fn R k) (fuel + 1) listed a w := by
  have hi' : l.toArray[i]? = some o := by simpa using hi
  simp only [chkO, hi', Bool.and_eq_true, Bool.or_eq_true] at hc
  obtain ⟨⟨hready, hwhich⟩, hc⟩ := hc
  have hmem : i ∈ Region.ready .any l.toArray listed := by simpa using hready
  rcases hwhich with ⟨hfree, hk⟩ | hone
  · have hkle : opKind pc o.op ≤ 1 := by
      rcases hk with hk | ⟨hk, _⟩ <;> · have := of_decide_eq_true (p := opKind pc o.op = _) (by simpa using hk); omega
    have hdn := hd.set hmem
    cases hw : Region.wanted o (yielded l.toArray a.tmps) with
    | false =>
      refine wpAnyK_take (v := undef) false hi' hns hfree hready (fun h => by cases h) hd (fun c a w hh => ctx_panic k _ _ a w hh) (.inr ⟨hw, rfl⟩) ?_
      exact h.1 hw _ fuel hc hns hf hdn
    | true =>
      obtain ⟨v, h1, h2⟩ := (h.2 hw).1 hkle
      rcases hk with hk | ⟨hk, hlate⟩
      · refine wpAnyK_take (v := v) false hi' hns hfree hready (fun h => by cases h) hd (fun c a w hh => ctx_panic k _ _ a w hh) (.inl ⟨hw, fun w' _ => h1 w' fun hne => absurd (by simpa using hk) hne⟩) ?_
        exact h2 _ fuel hc hns hf hdn
      · refine wpAnyK_take (v := v) true hi' hns hfree hready (fun _ => hlate) hd (fun c a w hh => ctx_panic k _ _ a w hh) (.inl ⟨hw, fun w' hw' => h1 w' fun _ => hw' rfl⟩) ?_
        exact h2 _ fuel hc hns hf hdn
  · have hr : Region.ready .any l.toArray listed = [i] := by simpa using hone
    refine wpAnyK_all hr (by simp) fun j hj => ?_
    simp only [List.mem_singleton] at hj
    subst hj
    exact ord_step hi h hc hns hf hd hmem
end

/-- What is known of the functions that are called. -/
def Known (P : Program) (gl : Nat → Option CV) (spec : Nat → Option Spec) : Prop := ∀ k s, spec k = some s → Callee P k ∧ Does P gl k s

theorem call_sound (H : Sat F cx ρ S st a w) (hK : Known F.P cx.gl cx.spec) {l : List Oper} {o : Oper} {k : Nat} {vs : List RV} {vc : List Prop} (h : stepOp cx l o st = .call k vs vc) {s : Spec} (hs : cx.spec k = some s)
    (hv : allOf vc) (hg : (gcond l st o).wants = true) {sa : s.α} (hp : s.pre sa) (hq : allOf (catP (eqvR s.m (tau 0 (callSig st s sa vs)) (s.args sa) vs) ((apartB (tau 0 (callSig st s sa vs)) (s.ins sa) [] = true) :: entCh s.m (tau 0 (callSig st s sa vs)) st.chunks (s.ins sa))))
    {next : Act → World → Prop} {Q : Exit → Act → World → Prop} (hn : ∀ b, s.post sa b → ∀ a' w', (s.ins sa = [] → Kept w w') → Good F cx (st.after s (callSig st s sa vs) sa b o.dst) a' w' → next a' w') : o.wp F.P a w next Q := by
  obtain ⟨hd, hne, f, args, ts, fv, ho, hfv, hk, hvs⟩ := stepOp_call h
  obtain ⟨hC, hD⟩ := hK k s hs
  have hf := funcOf_den hk (evalO_den H hfv)
  rw [allOf_cat] at hq
  obtain ⟨q1, q2, q3⟩ := hq
  have hargs : denR (RV.den ρ S w) vs (args.map a.eval).toList := by simpa using getVs_den H hg hvs hv
  unfold Oper.wp
  rw [run_call hC ho hf]
  refine (H.call hD hargs q1 q2 q3 hp).mono ?_
  rintro e w' ⟨v, b, ρ', S', rfl, hpost, hm, he, hnx, hres, hkept⟩
  exact hn b hpost _ _ hkept ⟨ρ', S', H.turn hm he hnx hd hres⟩

theorem mem_sound (H : Sat F cx ρ S st a w) (hT : TTok F.P cx.tt) {l : List Oper} {o : Oper} {vc : List Prop} {v : TV} {ch : List (Nat × Chunk)} {n : Nat} (h : stepOp cx l o st = .mem vc v ch n) (hv : allOf vc)
    {next : Act → World → Prop} {Q : Exit → Act → World → Prop}
    (hn : ∀ a' w', (∀ pc, opKind pc o.op ≤ 2 → Kept w w') → Good F cx { (st.putT o.dst v) with chunks := ch, next := st.next + n } a' w' → next a' w') : o.wp F.P a w next Q := by
  obtain ⟨hd, hne, hm⟩ := stepOp_mem h
  obtain ⟨nx, u, w', ρ', hrun, hnx, hmem, he, hn', hden⟩ := memOp_sound H hT o hm hv
  have hgood : Good F cx { (st.putT o.dst v) with chunks := ch, next := st.next + n } (a.put o.dst u) w' := by
    refine ⟨ρ', S, ?_⟩
    have e1 : ρ'.nx = st.next + n := by rw [hn', H.nxt]
    exact H.turn (tv := v) hmem he e1 hd hden
  unfold Oper.wp
  rw [hrun]
  have hkept : ∀ pc, opKind pc o.op ≤ 2 → Kept w w' := fun pc hk => memOp_kept pc H hT o hm hv hk hrun
  rcases hnx with rfl | ⟨rfl, rfl⟩
  · exact hn _ _ hkept hgood
  · exact hn _ _ hkept hgood

/-- The loops that are open began late enough, and the regions that draw have orders that show all of them. -/
def ItsOk (pc : Nat → Bool) (ord : Nat → Option Ord) (m : Nat) : List It → Prop
  | [] => True
  | .back _ st0 _ :: k => m ≤ st0.next ∧ ItsOk pc ord m k
  | .cut _ st0 :: k => m ≤ st0.next ∧ ItsOk pc ord m k
  | .code c :: k => ordsOk pc ord c = true ∧ ItsOk pc ord m k
  | .ops _ _ :: k => ItsOk pc ord m k
  | .op1 _ _ :: k => ItsOk pc ord m k
  | .op2 _ _ :: k => ItsOk pc ord m k
  | .again _ c :: k => ordsOk pc ord c = true ∧ ItsOk pc ord m k
  | .ord _ _ :: k => ItsOk pc ord m k
  | .blk _ :: k => ItsOk pc ord m k
theorem ItsOk.exit {pc : Nat → Bool} {ord : Nat → Option Ord} {m id : Nat} : ∀ {k k' : List It}, ItsOk pc ord m k → exitIt id k = some k' → ItsOk pc ord m k'
  | [], _, _, e => by cases e
  | .code _ :: k, k', h, e => ItsOk.exit (k := k) h.2 e
  | .ops _ _ :: k, k', h, e => ItsOk.exit (k := k) h e
  | .op1 _ _ :: k, k', h, e => ItsOk.exit (k := k) h e
  | .op2 _ _ :: k, k', h, e => ItsOk.exit (k := k) h e
  | .again _ _ :: k, k', h, e => ItsOk.exit (k := k) h.2 e
  | .ord _ _ :: k, k', h, e => ItsOk.exit (k := k) h e
  | .back _ _ _ :: k, k', h, e => ItsOk.exit (k := k) h.2 e
  | .cut _ _ :: k, k', h, e => ItsOk.exit (k := k) h.2 e
  | .blk id' :: k, k', h, e => by
    simp only [exitIt] at e
    cases hq : id' == id
    · rw [hq] at e; exact ItsOk.exit (k := k) h e
    · rw [hq] at e
      simp only [cond_true, Option.some.injEq] at e
      exact e ▸ h

/-- Functions that are called 'pure' ask for no chunk of their caller. -/
def PureOk (spec : Nat → Option Spec) (pc : Nat → Bool) : Prop := ∀ k s, spec k = some s → pc k = true → ∀ a, s.ins a = []

theorem opKind_call {pc : Nat → Bool} {f : Operand} {args : Array Operand} {ts : Array TypeId} : 2 ≤ opKind pc (.call ⟨.value f, args, ts⟩) := by
  cases f
  case func k =>
    show 2 ≤ (if pc k then 2 else 3)
    split <;> decide
  all_goals exact (by decide : 2 ≤ 3)

theorem opKind_pure {cx : Cx} {st : SS} {pc : Nat → Bool} {f : Operand} {args : Array Operand} {ts : Array TypeId} {fv : TV} {k : Nat} (h : evalO cx st f = some fv) (hk : funcOf fv = some k) (h2 : opKind pc (.call ⟨.value f, args, ts⟩) ≤ 2) : pc k = true := by
  cases f
  case func j =>
    simp only [evalO, Option.some.injEq] at h
    subst h
    simp only [funcOf, Option.some.injEq] at hk
    subst hk
    have h2 : (if pc j then 2 else 3) ≤ 2 := h2
    cases hp : pc j with
    | true => rfl
    | false => rw [hp] at h2; exact absurd h2 (by decide)
  all_goals exact absurd h2 (by show ¬ 3 ≤ 2; decide)

theorem op1_sound {pc : Nat → Bool} {n : Nat} {l : List Oper} {o : Oper} {k : List It} {N : Act → World → Prop} {Q : Exit → Act → World → Prop} (hT : TTok F.P cx.tt) (hK : Known F.P cx.gl cx.spec) (hpc : PureOk cx.spec pc) (H : Sat F cx ρ S st a w)
    (h : sxRun cx (n + 1) (.op2 l o :: k) st) (hnext : ∀ st', sxRun cx n k st' → ∀ a' w', Good F cx st' a' w' → N a' w') : Op1 F pc l o N Q a w := by
  simp only [sxRun] at h
  split at h
  · rename_i vc st' hs
    rw [allP_iff] at h
    obtain ⟨h1, h2⟩ := stepOp_ok pc H hT hs h.1
    refine ⟨fun hw => hnext _ h.2 _ _ ⟨ρ, S, h2 hw⟩, fun hw => ?_⟩
    obtain ⟨v, hrun, hsat⟩ := h1 hw
    refine ⟨fun _ => ⟨v, hrun, hnext _ h.2 _ _ ⟨ρ, S, hsat⟩⟩, fun _ => ?_⟩
    unfold Oper.wp
    rw [hrun w (fun _ => Kept.refl w)]
    exact ⟨fun _ => Kept.refl w, hnext _ h.2 _ _ ⟨ρ, S, hsat⟩⟩
  · rename_i vc v ch m hs
    obtain ⟨hd, hne, hm⟩ := stepOp_mem hs
    have hkind := memOp_kind pc hm
    have hw := gcond_wanted H l o hne
    split at h
    · rename_i hg
      rw [allP_iff] at h
      rw [hg] at hw
      refine ⟨fun hc => (by rw [hc] at hw; cases hw), fun _ => ⟨fun hk => by omega, fun _ => ?_⟩⟩
      exact mem_sound H hT hs h.1 fun a' w' hk hg => ⟨hk pc, hnext _ h.2 _ _ hg⟩
    · rename_i c hg
      rw [hg] at hw
      refine ⟨fun hc => ?_, fun hc => ⟨fun hk => by omega, fun _ => ?_⟩⟩
      · have hc' : c = false := by rw [← hc, hw]; rfl
        refine hnext _ ((condP_iff.1 h).2 hc') _ _ ⟨ρ, S, ?_⟩
        cases hdst : o.dst with
        | none => exact H
        | some d => exact H.setT (hd d hdst) rfl
      · have hc' : c = true := by rw [← hc, hw]; rfl
        have := (condP_iff.1 h).1 hc'
        rw [allP_iff] at this
        exact mem_sound H hT hs this.1 fun a' w' hk hg => ⟨hk pc, hnext _ this.2 _ _ hg⟩
    · exact h.elim
  · rename_i kf vs vc hs
    obtain ⟨hd, hne, f, args, ts, fv, ho, hfv, hkf, _⟩ := stepOp_call hs
    have hkind : 2 ≤ opKind pc o.op := by rw [ho]; exact opKind_call
    have hw := gcond_wanted H l o hne
    split at h
    · exact h.elim
    · rename_i s hsp
      have hins : ∀ sa, opKind pc o.op ≤ 2 → s.ins sa = [] := fun sa hk => hpc kf s hsp (opKind_pure hfv hkf (by rw [← ho]; exact hk)) sa
      split at h
      · rename_i hg
        rw [allP_iff] at h
        obtain ⟨hv, hx⟩ := h
        obtain ⟨sa, hp, hh⟩ := exA_ex hx
        rw [allP_iff] at hh
        rw [hg] at hw
        refine ⟨fun hc => (by rw [hc] at hw; cases hw), fun _ => ⟨fun hk => by omega, fun _ => ?_⟩⟩
        exact call_sound H hK hs hsp hv (by rw [hg]; rfl) hp hh.1 (fun b hb a' w' hk hg => ⟨fun hk2 => hk (hins sa hk2), hnext _ (hh.2 b hb) _ _ hg⟩)
      · rename_i c hg
        refine ⟨fun hc => ?_, fun hc => ⟨fun hk => by omega, fun _ => ?_⟩⟩
        · have hc' : c = false := by rw [← hc, hw, hg]; rfl
          refine hnext _ ((condP_iff.1 h).2 hc') _ _ ⟨ρ, S, ?_⟩
          cases hdst : o.dst with
          | none => exact H
          | some d => exact H.setT (hd d hdst) rfl
        · have hc' : c = true := by rw [← hc, hw, hg]; rfl
          have := (condP_iff.1 h).1 hc'
          rw [allP_iff] at this
          obtain ⟨hv, hx⟩ := this
          obtain ⟨sa, hp, hh⟩ := exA_ex hx
          rw [allP_iff] at hh
          exact call_sound H hK hs hsp hv (by rw [← hw, hc]) hp hh.1 (fun b hb a' w' hk hg => ⟨fun hk2 => hk (hins sa hk2), hnext _ (hh.2 b hb) _ _ hg⟩)
      · exact h.elim
  · exact h.elim

theorem Sat.drawn (H : Sat F cx ρ S st a w) {w' : World} (h1 : w'.heap = w.heap) (h2 : w'.os = w.os) (h3 : w'.tape = w.tape) (h4 : w'.output = w.output) : Sat F cx ρ S st a w' := by
  have e : Ext ρ S w ρ S w' := ⟨Nat.le_refl _, fun _ _ => rfl, fun _ _ => rfl, fun _ h => h, fun _ _ => by rw [h1]⟩
  refine ⟨⟨h2.trans H.mem.os, h3.trans H.mem.tape, h4.trans H.mem.output, by rw [h1]; exact H.mem.size, H.mem.ext.trans e, fun b hb => by rw [h1]; exact H.mem.fr b hb, fun b hb => by rw [h1]; exact H.mem.ro b hb, fun h ch hl => ?_, H.mem.own, H.mem.apart⟩,
    fun t u hu => let ⟨h1, h2⟩ := H.env t u hu; ⟨h1, TV.den_ext e u _ h2⟩, H.ntm, H.dfr, H.nxt, fun g c hg => CV.den0_ext e.sub e.heap _ _ (H.gl g c hg)⟩
  obtain ⟨h5, h6⟩ := H.mem.sat h ch hl
  exact ⟨h5, chunkSat_ext e h5 (fun _ _ => by rw [h1]) h6⟩

/-- THE EXECUTOR IS SOUND. -/
theorem sxRun_sound {pc : Nat → Bool} {fn : Func} {R : Ending → World → Prop} (hT : TTok F.P cx.tt) (hK : Known F.P cx.gl cx.spec) (hpc : PureOk cx.spec pc) (hmix : F.P.follows .mixedOrders = true)
    (hfin : ∀ st, cx.fin st → ∀ a w, Good F cx st a w → bodyPost F.P fn R .normal a w ∧ bodyPost F.P fn R .ret a w) :
    ∀ (n : Nat) (its : List It) (st : SS), ItsOk pc cx.ord F.ρ0.nx its → F.ρ0.nx ≤ st.next → sxRun cx n its st → ∀ a w, Good F cx st a w → ctx F cx pc fn R its .normal a w := by
  intro n
  induction n with
  | zero => intro its st _ _ h; simp [sxRun] at h
  | succ n ih =>
    intro its st hits h0 h a w hgood
    have hle : ∀ {st' : SS} {a' w'}, Good F cx st' a' w' → F.ρ0.nx ≤ st'.next := fun ⟨ρ, S, H⟩ => by rw [← H.nxt]; exact H.mem.ext.nx
    cases its with
    | nil => exact (hfin st h a w hgood).1
    | cons it k =>
      cases it with
      | code c =>
        show c.wp F.P (ctx F cx pc fn R k) a w
        cases c <;> simp only [sxRun] at h
        case skip => exact wp_skip (ih k st hits.2 h0 h a w hgood)
        case region id ops d =>
          cases d with
          | false =>
            simp only at h
            have := ih _ st (by exact hits.2) h0 h a w hgood
            refine wp_region_list ?_
            have e : ops = ops.toList.toArray := by simp
            have this' : wpList F.P ops.toList.toArray (ctx F cx pc fn R k) ops.toList a w := this
            rwa [← e] at this'
          | true =>
            simp only at h
            cases ho : cx.ord id with
            | none => simp [ho] at h
            | some o =>
              simp only [ho] at h
              have hok := hits.1
              simp only [ordsOk, ho, Bool.and_eq_true, decide_eq_true_eq] at hok
              obtain ⟨⟨hns, hlen⟩, hchk⟩ := hok
              have e : ops.toList.toArray = ops := by simp
              obtain ⟨ρ, S, H⟩ := hgood
              have H' : Sat F cx ρ S st a { w with drawn := w.drawn + 1 } := H.drawn (w' := { w with drawn := w.drawn + 1 }) rfl rfl rfl rfl
              have hh := ih (.ord ops.toList o :: k) st hits.2 h0 h a _ ⟨ρ, S, H'⟩
              have := hh (Array.replicate ops.size false) ops.size (by rw [e]; exact hchk) (by rw [e]; exact hns) hlen (fun k o hk => absurd hk (by simp [Array.getD_eq_getD_getElem?, Array.getElem?_replicate]; split <;> simp))
              rw [e] at this
              exact wp_region_any hmix (wpAny_of_K _ _ _ _ this)
        case seq x y =>
          have hok := hits.1
          simp only [ordsOk, Bool.and_eq_true] at hok
          cases hi : cx.inv (cutKey x) st with
          | none =>
            simp only [hi] at h
            exact wp_seq (ih (.code x :: .code y :: k) st ⟨hok.1, hok.2, hits.2⟩ h0 h a w hgood)
          | some i =>
            simp only [hi] at h
            obtain ⟨h1, h2⟩ := h
            refine wp_seq ?_
            have := ih (.code x :: .cut i st :: .code y :: k) st ⟨hok.1, h0, hok.2, hits.2⟩ h0 h1 a w hgood
            refine Code.wp_mono ?_ (show x.wp F.P (ctx F cx pc fn R (.cut i st :: .code y :: k)) a w from this)
            intro e a2 w2 hq
            cases e with
            | normal =>
              obtain ⟨x', hp, hg⟩ := hq
              exact ih (.code y :: k) (st.at i x') ⟨hok.2, hits.2⟩ (by simp only [SS.at]; omega) (h2 x' hp) a2 w2 hg
            | exit id => exact hq
            | goto l => exact hq
            | ret => exact hq
            | panic ch => exact hq
            | outgrown => exact hq
        case cond c x y =>
          have hok := hits.1
          simp only [ordsOk, Bool.and_eq_true] at hok
          obtain ⟨ρ, S, H⟩ := hgood
          split at h
          · rename_i b hb
            have hden : a.eval c = .bool b := evalO_den H hb
            exact wp_cond_split hden (fun hb' => ih (.code x :: k) st ⟨hok.1, hits.2⟩ h0 ((condP_iff.1 h).1 hb') a w ⟨ρ, S, H⟩) (fun hb' => ih (.code y :: k) st ⟨hok.2, hits.2⟩ h0 ((condP_iff.1 h).2 hb') a w ⟨ρ, S, H⟩)
          · exact h.elim
        case block id body => exact wp_block (ih (.code body :: .blk id :: k) st ⟨hits.1, hits.2⟩ h0 h a w hgood)
        case loop body =>
          cases hi : cx.inv (rid body) st with
          | none =>
            simp only [hi] at h
            exact wp_loop_rounds 70 (ih (.again 70 body :: k) st ⟨hits.1, hits.2⟩ h0 h a w hgood)
          | some i =>
            simp only [hi] at h
            obtain ⟨⟨x0, hp0, hent⟩, hround⟩ := h
            refine wp_loop_ghost (fun m a w => ∃ x, i.pre x ∧ i.μ x = m ∧ Good F cx (st.at i x) a w) (i.μ x0) ?_ ?_
            · obtain ⟨ρ, S, H⟩ := hgood
              obtain ⟨ρ', S', H'⟩ := H.seen hent (by rw [← H.nxt]; exact H.mem.ext.nx) (by simp [SS.at])
              exact ⟨x0, hp0, rfl, ρ', S', H'⟩
            · rintro m a' w' ⟨x, hp, rfl, hg⟩
              have := ih (.code body :: .back i st x :: k) (st.at i x) ⟨hits.1, h0, hits.2⟩ (by simp only [SS.at]; omega) (hround x hp) a' w' hg
              refine Code.wp_mono ?_ (show body.wp F.P (ctx F cx pc fn R (.back i st x :: k)) a' w' from this)
              intro e a2 w2 hq
              cases e with
              | normal =>
                obtain ⟨x', h1, h2, h3⟩ := hq
                exact ⟨i.μ x', h2, x', h1, rfl, h3⟩
              | exit id => exact hq
              | goto l => exact hq
              | ret => exact hq
              | panic ch => exact hq
              | outgrown => exact hq
        case exit id =>
          split at h
          · rename_i k' hk'
            exact wp_exit (ctx_exit k k' hk' (ih k' st (hits.2.exit hk') h0 h a w hgood))
          · exact h.elim
        case ret => exact wp_ret (ctx_ret k (hfin st h a w hgood).2)
      | ops l r =>
        show wpList F.P l.toArray (ctx F cx pc fn R k) r a w
        cases r with
        | nil =>
          simp only [sxRun] at h
          exact wpList_nil (ih k st hits h0 h a w hgood)
        | cons o r =>
          simp only [sxRun] at h
          have := ih (.op1 l o :: .ops l r :: k) st hits h0 h a w hgood
          have h1 : Op1 F pc l o (ctx F cx pc fn R (.ops l r :: k) .normal) (ctx F cx pc fn R (.ops l r :: k)) a w := this
          exact wpList_cons (fun hw => wp_swap (fun a' w' (hh : (opKind pc o.op ≤ 2 → Kept w w') ∧ ctx F cx pc fn R (.ops l r :: k) .normal a' w') => hh.2) (fun _ _ _ hh => hh) (fun _ _ hh => hh) (h1.wp hw)) (fun hw => h1.1 hw)
      | op1 l o =>
        obtain ⟨ρ, S, H⟩ := hgood
        simp only [sxRun] at h
        obtain ⟨S', H'⟩ := Sat.frzs (frzOp cx st o.op) H
        exact ih (.op2 l o :: k) _ hits (by rw [SS.frzs_next]; exact h0) h a w ⟨ρ, S', H'⟩
      | op2 l o =>
        obtain ⟨ρ, S, H⟩ := hgood
        show Op1 F pc l o (ctx F cx pc fn R k .normal) (ctx F cx pc fn R k) a w
        exact op1_sound hT hK hpc H h fun st' hh a' w' hg => ih k st' hits (hle hg) hh a' w' hg
      | ord l o =>
        intro listed fuel hc hns hf hd
        cases o with
        | done =>
          simp only [sxRun] at h
          exact wpAnyK_done (by simpa [chkO] using hc) (ih k st hits h0 h a w hgood) fuel
        | go i r =>
          simp only [sxRun] at h
          split at h
          · rename_i o ho
            obtain ⟨fuel, rfl⟩ : ∃ m, fuel = m + 1 := ⟨fuel - 1, by simp only [Ord.len] at hf; omega⟩
            exact ord_go (by rw [← listAt_eq]; exact ho) (ih (.op1 l o :: .ord l r :: k) st hits h0 h a w hgood) hc hns (by simp only [Ord.len] at hf; omega) hd
          · exact h.elim
        | br i x j y =>
          simp only [sxRun] at h
          split at h
          · rename_i o o' ho ho'
            obtain ⟨fuel, rfl⟩ : ∃ m, fuel = m + 1 := ⟨fuel - 1, by simp only [Ord.len] at hf; omega⟩
            simp only [chkO, Bool.and_eq_true] at hc
            obtain ⟨⟨hr, hc1⟩, hc2⟩ := hc
            have hr : Region.ready .any l.toArray listed = [i, j] := by simpa using hr
            simp only [Ord.len] at hf
            refine wpAnyK_all hr (by simp) fun m hm => ?_
            have hm' : m ∈ Region.ready .any l.toArray listed := by rw [hr]; exact hm
            simp only [List.mem_cons, List.not_mem_nil, or_false] at hm
            rcases hm with rfl | rfl
            · exact ord_step (by rw [← listAt_eq]; exact ho) (ih (.op1 l o :: .ord l x :: k) st hits h0 h.1 a w hgood) hc1 hns (by omega) hd hm'
            · exact ord_step (by rw [← listAt_eq]; exact ho') (ih (.op1 l o' :: .ord l y :: k) st hits h0 h.2 a w hgood) hc2 hns (by omega) hd hm'
          · exact h.elim
        | br3 i x j y q z =>
          simp only [sxRun] at h
          split at h
          · rename_i o o' o'' ho ho' ho''
            obtain ⟨fuel, rfl⟩ : ∃ m, fuel = m + 1 := ⟨fuel - 1, by simp only [Ord.len] at hf; omega⟩
            simp only [chkO, Bool.and_eq_true] at hc
            obtain ⟨⟨⟨hr, hc1⟩, hc2⟩, hc3⟩ := hc
            have hr : Region.ready .any l.toArray listed = [i, j, q] := by simpa using hr
            simp only [Ord.len] at hf
            refine wpAnyK_all hr (by simp) fun m hm => ?_
            have hm' : m ∈ Region.ready .any l.toArray listed := by rw [hr]; exact hm
            simp only [List.mem_cons, List.not_mem_nil, or_false] at hm
            rcases hm with rfl | rfl | rfl
            · exact ord_step (by rw [← listAt_eq]; exact ho) (ih (.op1 l o :: .ord l x :: k) st hits h0 h.1 a w hgood) hc1 hns (by omega) hd hm'
            · exact ord_step (by rw [← listAt_eq]; exact ho') (ih (.op1 l o' :: .ord l y :: k) st hits h0 h.2.1 a w hgood) hc2 hns (by omega) hd hm'
            · exact ord_step (by rw [← listAt_eq]; exact ho'') (ih (.op1 l o'' :: .ord l z :: k) st hits h0 h.2.2 a w hgood) hc3 hns (by omega) hd hm'
          · exact h.elim
      | again m c =>
        cases m with
        | zero => simp [sxRun] at h
        | succ m =>
          simp only [sxRun] at h
          exact ih (.code c :: .again m c :: k) st ⟨hits.1, hits.1, hits.2⟩ h0 h a w hgood
      | blk id =>
        simp only [sxRun] at h
        exact ih k st hits h0 h a w hgood
      | back i st0 x =>
        simp only [sxRun] at h
        obtain ⟨x', h1, h2, h3⟩ := h
        obtain ⟨ρ, S, H⟩ := hgood
        obtain ⟨ρ', S', H'⟩ := H.seen h3 hits.1 (by simp [SS.at])
        exact ⟨x', h1, h2, ρ', S', H'⟩
      | cut i st0 =>
        simp only [sxRun] at h
        obtain ⟨x', h1, h3⟩ := h
        obtain ⟨ρ, S, H⟩ := hgood
        obtain ⟨ρ', S', H'⟩ := H.seen h3 hits.1 (by simp [SS.at])
        exact ⟨x', h1, ρ', S', H'⟩
end
end Go.Sx
namespace Go.Sx
open Go

section
variable {F : Fx} {cx : Cx} {ρ : Env} {S : Nat → Prop} {st : SS} {a : Act} {w : World}

/-- A result's value, as the model reads it. -/
def resVar (tmps : Array Value) : ResultVar → Sem Value
  | .tmp t => pure (tmps.getD t undef)
  | .cell p t => do loadVar t (← asAddr (tmps.getD p undef))

theorem resOne_sound (H : Sat F cx ρ S st a w) (hT : TTok F.P cx.tt) {x : ResultVar} {ns : List Prop} {r : RV} (h : resOne cx.tt st x = some (ns, r)) (hv : allOf ns) :
    ∃ u, r.den ρ S w u ∧ (resVar a.tmps x).run F.P w = .ok u w := by
  cases x with
  | tmp t =>
    simp only [resOne] at h
    split at h
    · rename_i v hl
      simp only [Option.some.injEq, Prod.mk.injEq] at h
      obtain ⟨rfl, rfl⟩ := h
      exact ⟨_, (H.env t _ hl).2, by simp [resVar]⟩
    · cases h
  | cell p t =>
    simp only [resOne] at h
    split at h
    · rename_i hh o hl
      split at h
      · rename_i ct cs hlk
        split at h
        · rename_i v hval
          simp only [Option.some.injEq, Prod.mk.injEq] at h
          obtain ⟨rfl, rfl⟩ := h
          obtain ⟨hv2, hv3⟩ := hv
          obtain ⟨_, b, hb, hx'⟩ := (H.env p _ hl).2
          obtain ⟨_, b', vs, hb', hheap, hden⟩ := H.mem.sat _ _ hlk
          rw [hb] at hb'
          simp only [Option.some.injEq] at hb'
          subst hb'
          rw [len'_eq] at hv2
          obtain ⟨us, h1, h2, h3⟩ := cellsFrom_den (d := CV.den ρ S w) (g := nth cs) (cell := fun j => w.cell? ⟨b, j, none⟩) (cx.tt t).size o (fun j h1 h2 => by
            obtain ⟨u, hu, hd⟩ := denL_nth hden (show j < cs.length by omega)
            exact ⟨u, cell_of_heap hheap (by simpa using hu), hd⟩)
          obtain ⟨u, hu, hu'⟩ := val_den hval hv3 h1
          refine ⟨u, hu, ?_⟩
          have := run_loadAt (val_known hT hval) w b o us h2 h3 u hu'
          simp only [Instr.loadAt, Instr.sureAddr, Sem.run_bind, Sem.run_pure, Result.andThen_ok] at this
          simp only [resVar, hx']
          simp [asAddr, this]
        · cases h
      · cases h
    · cases h

theorem resAll_sound (H : Sat F cx ρ S st a w) (hT : TTok F.P cx.tt) : ∀ {xs : List ResultVar} {ns : List Prop} {vs : List RV}, resAll cx.tt st xs = some (ns, vs) → allOf ns →
    ∃ us : List Value, denR (RV.den ρ S w) vs us ∧ (xs.mapM (resVar a.tmps)).run F.P w = .ok us w
  | [], ns, vs, h, _ => by
    simp only [resAll, Option.some.injEq, Prod.mk.injEq] at h
    obtain ⟨rfl, rfl⟩ := h
    exact ⟨[], trivial, by simp⟩
  | x :: xs, ns, vs, h, hv => by
    simp only [resAll] at h
    split at h
    · rename_i n v ns' vs' hx hr
      simp only [Option.some.injEq, Prod.mk.injEq] at h
      obtain ⟨rfl, rfl⟩ := h
      rw [allOf_cat] at hv
      obtain ⟨u, hu, hrun⟩ := resOne_sound H hT hx hv.1
      obtain ⟨us, hus, hruns⟩ := resAll_sound H hT hr hv.2
      refine ⟨u :: us, ⟨hu, hus⟩, ?_⟩
      rw [List.mapM_cons]
      simp only [Sem.run_bind, hrun, Result.andThen_ok, hruns, Sem.run_pure]
    · cases h

theorem tupOf_den {vs : List RV} {us : List Value} (h : denR (RV.den ρ S w) vs us) : (tupOf vs).den ρ S w (if h : us.toArray.size = 1 then us.toArray[0] else .tuple us.toArray) := by
  match vs, us, h with
  | [], [], _ => exact ⟨#[], rfl, trivial⟩
  | [v], [u], h => exact h.1
  | v :: v' :: vs, u :: u' :: us, h => exact ⟨(u :: u' :: us).toArray, by simp, h⟩
  | [], _ :: _, h => exact h.elim
  | _ :: _, [], h => exact h.elim
  | [_], _ :: _ :: _, h => exact h.2.elim
  | _ :: _ :: _, [_], h => exact h.2.elim

theorem argsEnv_look : ∀ {vs : List RV} {n t : Nat} {v : TV}, look (argsEnv n vs) t = some v → ∃ r, v = .r r ∧ n ≤ t ∧ vs[t - n]? = some r
  | [], _, _, _, h => by cases h
  | r :: vs, n, t, v, h => by
    simp only [argsEnv, look_cons] at h
    split at h
    · rename_i e
      simp only [Option.some.injEq] at h
      subst e h
      exact ⟨r, rfl, Nat.le_refl _, by simp⟩
    · obtain ⟨r', h1, h2, h3⟩ := argsEnv_look h
      refine ⟨r', h1, by omega, ?_⟩
      rw [show t - n = (t - (n + 1)) + 1 by omega]
      simpa using h3

theorem denR_get : ∀ {vs : List RV} {us : List Value} {i : Nat} {r : RV}, denR (RV.den ρ S w) vs us → vs[i]? = some r → ∃ u, us[i]? = some u ∧ r.den ρ S w u
  | [], _, _, _, _, h => by simp at h
  | _ :: _, [], _, _, h, _ => h.elim
  | _ :: _, u :: _, 0, r, h, hr => by simp only [List.getElem?_cons_zero, Option.some.injEq] at hr; subst hr; exact ⟨u, rfl, h.1⟩
  | _ :: vs, _ :: us, i + 1, r, h, hr => by
    obtain ⟨u, h1, h2⟩ := denR_get h.2 (show vs[i]? = some r by simpa using hr)
    exact ⟨u, by simpa using h1, h2⟩

theorem denR_length : ∀ {vs : List RV} {us : List Value}, denR (RV.den ρ S w) vs us → us.length = vs.length
  | [], [], _ => rfl
  | [], _ :: _, h => h.elim
  | _ :: _, [], h => h.elim
  | _ :: _, _ :: _, h => by simp [denR_length h.2]
end

/-- The setting of one function's run. -/
def mkCx (tt : Nat → TI) (gl : Nat → Option CV) (spec : Nat → Option Spec) (inv : Nat → SS → Option Inv) (ord : Nat → Option Ord) (rs : List ResultVar) (n : Nat) (s : Spec) (a : s.α) : Cx :=
  { tt := tt, gl := gl, spec := spec, inv := inv, ord := ord, fin := finP tt rs s a, n := n }

/-- A FUNCTION DOES AS IT IS SAID, IF ITS EXECUTOR SAYS SO. -/
theorem Does.of {P : Program} {tt : Nat → TI} {gl : Nat → Option CV} {spec : Nat → Option Spec} {k : Nat} {fn : Func} {body : Code} (hf : P.funcs[k]? = some fn) (hb : fn.body = some body)
    (hT : TTok P tt) (hK : Known P gl spec) {pc : Nat → Bool} (hpc : PureOk spec pc) (hmix : P.follows .mixedOrders = true) (s : Spec) (inv : s.α → Nat → SS → Option Inv) (ord : Nat → Option Ord) (fuel : Nat) {rs : List ResultVar} (hrs : fn.results.toList = rs) {n : Nat} (hn : fn.ntmps = n) (hpos : 0 < n) (hord : ordsOk pc ord body = true)
    (h : ∀ a, s.pre a → (s.args a).length ≤ n ∧ sxRun (mkCx tt gl spec (inv a) ord rs n s a) fuel [.code body] { env := argsEnv 0 (s.args a), chunks := s.ins a, next := s.m }) : Does P gl k s := by
  intro w0 ρ0 S0 Fr hFr a args hnx hmem hargs hp hgl
  subst hrs hn
  obtain ⟨hlen, hrun⟩ := h a hp
  have hsz : args.size = (s.args a).length := by simpa using denR_length hargs
  refine calls_of_wp hf hb ?_
  let F : Fx := ⟨P, w0, ρ0, S0, Fr, hFr⟩
  let cx := mkCx tt gl spec (inv a) ord fn.results.toList fn.ntmps s a
  have hgood : Good F cx { env := argsEnv 0 (s.args a), chunks := s.ins a, next := s.m } { tmps := args ++ Array.replicate (fn.ntmps - args.size) undef, defers := [] } w0 := by
    refine ⟨ρ0, S0, hmem, fun t v hl => ?_, ?_, rfl, hnx, hgl⟩
    · obtain ⟨r, rfl, _, hr⟩ := argsEnv_look hl
      simp only [Nat.sub_zero] at hr
      obtain ⟨u, hu, hd⟩ := denR_get hargs hr
      have hlt : t < (s.args a).length := (List.getElem?_eq_some_iff.1 hr).1
      refine ⟨by show t < fn.ntmps; omega, ?_⟩
      have hu' : args[t]? = some u := by simpa using hu
      have : (args ++ Array.replicate (fn.ntmps - args.size) undef).getD t undef = u := by
        rw [Array.getD_eq_getD_getElem?, Array.getElem?_append_left (by omega), hu']
        rfl
      show RV.den ρ0 S0 w0 r _
      rw [this]
      exact hd
    · show (args ++ Array.replicate (fn.ntmps - args.size) undef).size = fn.ntmps
      simp; omega
  refine sxRun_sound (F := F) (cx := cx) (pc := pc) hT hK hpc hmix ?_ fuel [.code body] _ ⟨hord, trivial⟩ (by show ρ0.nx ≤ s.m; omega) hrun _ _ hgood
  intro st hfin a' w' hg
  obtain ⟨ρ, S, H⟩ := hg
  have hfin' : finP tt fn.results.toList s a st := hfin
  unfold finP at hfin'
  split at hfin'
  · exact hfin'.elim
  · rename_i ns vs hres
    rw [allP_iff] at hfin'
    obtain ⟨hns, b, hpost, hisA⟩ := hfin'
    obtain ⟨us, hus, hrun'⟩ := resAll_sound H hT hres hns
    have hresults : (results fn a'.tmps).run P w' = .ok (if h : us.toArray.size = 1 then us.toArray[0] else .tuple us.toArray) w' := by
      have e : results fn a'.tmps = (do let vs ← fn.results.mapM (resVar a'.tmps); pure (if h : vs.size = 1 then vs[0] else .tuple vs)) := by
        unfold results
        congr 1
      rw [e, Array.mapM_eq_mapM_toList]
      simp only [Sem.run_bind, Sem.run_map]
      rw [show (List.mapM (resVar a'.tmps) fn.results.toList).run P w' = .ok us w' from hrun']
      simp
    have hden := tupOf_den hus
    have H0 : Sat F cx ρ S { st with env := [(0, tupOf vs)] } { tmps := (Array.replicate fn.ntmps undef).setIfInBounds 0 (if h : us.toArray.size = 1 then us.toArray[0] else .tuple us.toArray), defers := [] } w' := by
      refine ⟨H.mem, fun t v hl => ?_, by show ((Array.replicate fn.ntmps undef).setIfInBounds 0 _).size = fn.ntmps; simp, rfl, H.nxt, H.gl⟩
      rw [look_cons] at hl
      split at hl
      · rename_i e
        simp only [Option.some.injEq] at hl
        subst e hl
        refine ⟨hpos, ?_⟩
        have : ((Array.replicate fn.ntmps undef).setIfInBounds 0 (if h : us.toArray.size = 1 then us.toArray[0] else Value.tuple us.toArray)).getD 0 undef = (if h : us.toArray.size = 1 then us.toArray[0] else Value.tuple us.toArray) := by
          simp [hpos]
        show (tupOf vs).den ρ S w' _
        rw [this]
        exact hden
      · cases hl
    obtain ⟨ρ', S', H'⟩ := H0.seen hisA (by show ρ0.nx ≤ s.m; omega) (by simp)
    have hR : ∃ v b ρ' S', (Ending.returned (if h : us.toArray.size = 1 then us.toArray[0] else Value.tuple us.toArray)) = .returned v ∧ s.post a b ∧ Mem F ρ' S' w' (s.outs a b) ∧ ρ'.nx = s.m + s.fresh ∧ (s.res a b).den ρ' S' w' v := by
      refine ⟨_, b, ρ', S', rfl, hpost, H'.mem, H'.nxt, ?_⟩
      have := (H'.env 0 (s.res a b) (by simp [look])).2
      have e : ((Array.replicate fn.ntmps undef).setIfInBounds 0 (if h : us.toArray.size = 1 then us.toArray[0] else Value.tuple us.toArray)).getD 0 undef = (if h : us.toArray.size = 1 then us.toArray[0] else Value.tuple us.toArray) := by
        simp [hpos]
      rw [e] at this
      exact this
    exact ⟨bodyPost_end hresults H.dfr hR, bodyPost_ret hresults H.dfr hR⟩
end Go.Sx
namespace Go.Sx
open Go

/-! ### A table of types, checked by the kernel -/
def unkT : TI := ⟨false, 0, 0, false, [], [], .other, false⟩

def zeqB : Value → CV → Bool
  | .int k n, .int k' n' => k == k' && n == n'
  | .bool b, .bool b' => b == b'
  | .string s, .str [] => s.data.size == 0
  | .pointer none, .nilp => true
  | .slice none 0 0, .nils => true
  | .map none, .lit (.map none) => true
  | .chan none, .lit (.chan none) => true
  | .nilFunc, .lit .nilFunc => true
  | .nilIface, .lit .nilIface => true
  | _, _ => false

theorem zeqB_sound {v : Value} {c : CV} (h : zeqB v c = true) : constCV v = some c := by
  unfold zeqB at h
  split at h <;> first | (cases h; done) | skip
  · simp only [Bool.and_eq_true, beq_iff_eq] at h
    obtain ⟨rfl, rfl⟩ := h
    rfl
  · simp only [beq_iff_eq] at h
    subst h; rfl
  · simp only [beq_iff_eq, Array.size_eq_zero_iff] at h
    simp [constCV, h]
  all_goals rfl

def zeqs : List Value → List CV → Bool
  | [], [] => true
  | v :: vs, c :: cs => zeqB v c && zeqs vs cs
  | _, _ => false
theorem zeqs_sound : ∀ {vs : List Value} {cs : List CV}, zeqs vs cs = true → vs.map constCV = cs.map some
  | [], [], _ => rfl
  | v :: vs, c :: cs, h => by
    simp only [zeqs, Bool.and_eq_true] at h
    simp only [List.map_cons, zeqB_sound h.1, zeqs_sound h.2]
  | [], _ :: _, h => by cases h
  | _ :: _, [], h => by cases h

def fieldsOf (P : Program) : List Field → Option (List (Nat × Nat))
  | [] => some []
  | f :: r => match P.info? f.type, fieldsOf P r with
    | some i, some l => some ((f.offset, i.size) :: l)
    | _, _ => none
theorem fieldsOf_sound {P : Program} : ∀ {fs : List Field} {l : List (Nat × Nat)}, fieldsOf P fs = some l → fs.mapM (fun f => (P.info? f.type).map fun i => (f.offset, i.size)) = some l
  | [], l, h => by simp only [fieldsOf, Option.some.injEq] at h; subst h; rfl
  | f :: fs, l, h => by
    simp only [fieldsOf] at h
    split at h
    · rename_i i l' hi hl
      simp only [Option.some.injEq] at h
      subst h
      simp [List.mapM_cons, hi, fieldsOf_sound hl]
    · cases h

def shB (P : Program) : TypeDesc → Sh → Bool
  | .int k, .int k' => k == k'
  | .bool, .bool => true
  | .string, .str => true
  | .slice e, .slice e' => e == e'
  | .array n e, .array n' e' => n == n' && e == e'
  | .struct fs, .struct l => fieldsOf P fs.toList == some l && l.all fun p => p.2 != 0
  | .pointer _, .ptr => true
  | _, .other => true
  | _, _ => false
theorem shB_sound {P : Program} {d : TypeDesc} {s : Sh} (h : shB P d s = true) : shOk P d s := by
  unfold shB at h
  split at h
  · simpa [shOk] using h
  · trivial
  · trivial
  · simpa [shOk] using h
  · simpa [shOk] using h
  · simp only [Bool.and_eq_true, beq_iff_eq, List.all_eq_true, bne_iff_ne, ne_eq] at h
    exact ⟨fieldsOf_sound h.1, h.2⟩
  · trivial
  · cases d <;> trivial
  · cases h

def intFsB (P : Program) : Nat → List Field → Bool
  | _, [] => true
  | n, f :: r => f.offset == n && f.name != "_" && (match P.underlying f.type with | some (.int _) => true | _ => false) && intFsB P (n + 1) r
theorem intFsB_sound {P : Program} : ∀ {n : Nat} {l : List Field}, intFsB P n l = true → intFs P n l
  | _, [], _ => trivial
  | n, f :: r, h => by
    simp only [intFsB, Bool.and_eq_true, beq_iff_eq, bne_iff_ne, ne_eq] at h
    obtain ⟨⟨⟨h1, h2⟩, h3⟩, h5⟩ := h
    refine ⟨h1, h2, ?_, intFsB_sound h5⟩
    split at h3
    · exact ⟨_, by assumption⟩
    · cases h3
def eqB (P : Program) (t n : Nat) : Bool := match P.underlying t with
  | some (.struct fs) => !P.stoodInHeld t && !P.eqGuardType P.depth t && fs.toList.length == n && intFsB P 0 fs.toList
  | _ => false
theorem eqB_sound {P : Program} {t n : Nat} (h : eqB P t n = true) : EqOk P t n := by
  unfold eqB at h
  split at h
  · rename_i fs hf
    simp only [Bool.and_eq_true, beq_iff_eq, Bool.not_eq_true'] at h
    exact ⟨fs, hf, h.1.1.1, h.1.1.2, h.1.2, intFsB_sound h.2⟩
  · cases h

def tiB (P : Program) (t : Nat) (ti : TI) : Bool :=
  (match P.info? t with
    | some i => i.size == ti.size && i.bytes == ti.bytes && (match i.zero with | some z => zeqs z.cells.toList ti.zero && z.cells.size == ti.size | none => false)
    | none => false) &&
  (match P.underlying t with
    | some d => shB P d ti.sh && isAggD d == ti.agg
    | none => false) &&
  ti.kinds.length == ti.size &&
  (match ti.sh with
    | .struct l => l.all fun p => decide (p.1 + p.2 ≤ ti.size)
    | .array n e => match P.info? e with
      | some inf => decide (n * inf.size ≤ ti.size)
      | none => true
    | _ => true) &&
  (!ti.eqb || eqB P t ti.size)

theorem tiB_sound {P : Program} {t : Nat} {ti : TI} (h : tiB P t ti = true) : TIok P t ti := by
  simp only [tiB, Bool.and_eq_true] at h
  obtain ⟨⟨⟨⟨h1, h2⟩, h3⟩, h4⟩, h9⟩ := h
  refine ⟨?_, ?_, by simpa using h3, fun l hl p hp => ?_, fun n e inf hs hi => ?_, fun he => ?_⟩
  · split at h1
    · rename_i i hi
      simp only [Bool.and_eq_true, beq_iff_eq] at h1
      obtain ⟨⟨h5, h6⟩, h7⟩ := h1
      split at h7
      · rename_i z hz
        simp only [Bool.and_eq_true, beq_iff_eq] at h7
        exact ⟨i, z, hi, h5, h6, hz, zeqs_sound h7.1, h7.2⟩
      · cases h7
    · cases h1
  · split at h2
    · rename_i d hd
      simp only [Bool.and_eq_true, beq_iff_eq] at h2
      exact ⟨d, hd, shB_sound h2.1, h2.2⟩
    · cases h2
  · rw [hl] at h4
    simp only [List.all_eq_true, decide_eq_true_eq] at h4
    exact h4 p hp
  · rw [hs] at h4
    simp only [hi, decide_eq_true_eq] at h4
    exact h4
  · rw [he] at h9
    exact eqB_sound (by simpa using h9)

/-- The table as a list, from some type on. -/
def ttab (l : List (Option TI)) (t : Nat) : TI := match listAt l t with
  | some (some ti) => ti
  | _ => unkT
def chkT (P : Program) : Nat → List (Option TI) → Bool
  | _, [] => true
  | n, none :: r => chkT P (n + 1) r
  | n, some ti :: r => ti.known && tiB P n ti && chkT P (n + 1) r
theorem chkT_at {P : Program} : ∀ {l : List (Option TI)} {n i : Nat} {ti : TI}, chkT P n l = true → listAt l i = some (some ti) → ti.known = true ∧ TIok P (n + i) ti
  | [], _, _, _, _, h => by cases h
  | none :: r, n, 0, ti, _, h => by cases h
  | none :: r, n, i + 1, ti, hc, h => by
    have := chkT_at (l := r) (n := n + 1) (i := i) hc h
    rwa [show n + (i + 1) = n + 1 + i by omega]
  | some u :: r, n, 0, ti, hc, h => by
    simp only [listAt, Option.some.injEq] at h
    subst h
    simp only [chkT, Bool.and_eq_true] at hc
    exact ⟨hc.1.1, tiB_sound hc.1.2⟩
  | some u :: r, n, i + 1, ti, hc, h => by
    simp only [chkT, Bool.and_eq_true] at hc
    have := chkT_at (l := r) (n := n + 1) (i := i) hc.2 h
    rwa [show n + (i + 1) = n + 1 + i by omega]
theorem TTok.of_list {P : Program} {l : List (Option TI)} (h : chkT P 0 l = true) : TTok P (ttab l) := by
  intro t
  unfold ttab
  split
  · rename_i ti hl
    obtain ⟨h1, h2⟩ := chkT_at h hl
    rw [if_pos h1]
    simpa using h2
  · rfl

end Go.Sx
namespace Go.Sx
open Go

theorem vc_of {P Q : Prop} (h : P = Q) (q : Q) : P := h.mpr q
theorem cond_or (b y : Bool) : (bif b then true else y) = (b || y) := by cases b <;> rfl
theorem cond_and (b x : Bool) : (bif b then x else false) = (b && x) := by cases b <;> cases x <;> rfl
theorem wrap_u64 (n : Int) : IntKind.u64.wrap n = n % 18446744073709551616 := by rfl
theorem wrap_u8 (n : Int) : IntKind.u8.wrap n = n % 256 := by rfl
theorem wrap_i64 (n : Int) : IntKind.i64.wrap n = (n + 9223372036854775808) % 18446744073709551616 - 9223372036854775808 := by
  simp only [IntKind.wrap, IntKind.bits, IntKind.signed]
  simp
  try omega
theorem wrap_i32 (n : Int) : IntKind.i32.wrap n = (n + 2147483648) % 4294967296 - 2147483648 := by
  simp only [IntKind.wrap, IntKind.bits, IntKind.signed]
  simp
  try omega

theorem tdiv_u64 (n k : Int) : (n % 18446744073709551616).tdiv k = n % 18446744073709551616 / k := Int.tdiv_eq_ediv_of_nonneg (Int.emod_nonneg _ (by decide))
theorem tmod_u64 (n k : Int) : (n % 18446744073709551616).tmod k = n % 18446744073709551616 % k := Int.tmod_eq_emod_of_nonneg (Int.emod_nonneg _ (by decide))

theorem fits_i (k k' : IntKind) (n : Int) : (CK.int k).fits (.int k' n) = ikEq k k' := rfl
theorem fits_b (b : Bool) : CK.bool.fits (.bool b) = true := rfl
theorem fits_s (s : List UInt8) : CK.str.fits (.str s) = true := rfl
theorem fits_o (c : CV) : CK.other.fits c = true := by cases c <;> rfl
theorem toInt_i (k : IntKind) (n : Int) : (CV.int k n).toInt = n := rfl
theorem toBool_b (b : Bool) : (CV.bool b).toBool = b := rfl
theorem toStr_s (s : List UInt8) : (CV.str s).toStr = s := rfl

def lookS : List (Nat × Spec) → Nat → Option Spec
  | [], _ => none
  | (k, v) :: r, t => bif k == t then some v else lookS r t
theorem lookS_cons (k : Nat) (v : Spec) (r : List (Nat × Spec)) (t : Nat) : lookS ((k, v) :: r) t = if k = t then some v else lookS r t := by
  simp only [lookS]
  by_cases h : k = t
  · subst h; simp
  · have : (k == t) = false := by simpa using h
    rw [this]; simp [h]
theorem Known.nil {P : Program} {gl : Nat → Option CV} : Known P gl (lookS []) := fun _ _ h => by cases h
theorem Known.cons {P : Program} {gl : Nat → Option CV} {L : List (Nat × Spec)} (h : Known P gl (lookS L)) {k : Nat} {s : Spec} (hc : Callee P k) (hd : Does P gl k s) : Known P gl (lookS ((k, s) :: L)) := fun k' s' hl => by
  rw [lookS_cons] at hl
  split at hl
  · rename_i e
    simp only [Option.some.injEq] at hl
    subst e hl
    exact ⟨hc, hd⟩
  · exact h k' s' hl
theorem PureOk.nil {pc : Nat → Bool} : PureOk (lookS []) pc := fun _ _ h => by cases h
theorem PureOk.cons {pc : Nat → Bool} {L : List (Nat × Spec)} (h : PureOk (lookS L) pc) {k : Nat} {s : Spec} (hs : pc k = true → ∀ a, s.ins a = []) : PureOk (lookS ((k, s) :: L)) pc := fun k' s' hl => by
  rw [lookS_cons] at hl
  split at hl
  · rename_i e
    simp only [Option.some.injEq] at hl
    subst e hl
    exact hs
  · exact h k' s' hl

/-! ### Numbers as text -/
def dig (c : UInt8) : Bool := decide (48 ≤ c.toNat) && decide (c.toNat ≤ 57)
/-- A number's value, as it is read from the left. -/
def numF (s : List UInt8) : Int := s.foldl (fun n c => n * 10 + (c.toNat - 48 : Int)) 0
/-- What 'Number' answers. -/
def number (s : List UInt8) (most : Int) : Option Int :=
  if s ≠ [] ∧ s.length ≤ 20 ∧ (s.getD 0 0 = 48 → s.length ≤ 1) ∧ s.all dig = true ∧ numF s ≤ most then some (numF s) else none
def numAns (s : List UInt8) (most : Int) : Int × Bool := match number s most with | some n => (n, true) | none => (0, false)

theorem numF_snoc (s : List UInt8) (c : UInt8) : numF (s ++ [c]) = numF s * 10 + (c.toNat - 48 : Int) := by simp [numF]
theorem take_snoc (s : List UInt8) {x : Nat} (h : x < s.length) : s.take (x + 1) = s.take x ++ [s.getD x 0] := by
  rw [List.take_succ_eq_append_getElem h]
  simp [h]
theorem numF_grow : ∀ (r s : List UInt8), r.all dig = true → 0 ≤ numF s → numF s ≤ numF (s ++ r)
  | [], s, _, _ => by simp
  | c :: r, s, h, h0 => by
    simp only [List.all_cons, Bool.and_eq_true] at h
    have hc := h.1
    simp only [dig, Bool.and_eq_true, decide_eq_true_eq] at hc
    have h1 := numF_snoc s c
    have h2 := numF_grow r (s ++ [c]) h.2 (by omega)
    rw [List.append_assoc] at h2
    simp only [List.singleton_append] at h2
    omega
theorem numF_nonneg : ∀ (s : List UInt8), s.all dig = true → 0 ≤ numF s := fun s h => by
  have := numF_grow s [] h (by simp [numF])
  simpa [numF] using this
theorem numF_take (s : List UInt8) (k : Nat) (h : s.all dig = true) : numF (s.take k) ≤ numF s := by
  have h1 : (s.take k).all dig = true ∧ (s.drop k).all dig = true := by
    rw [← List.take_append_drop k s, List.all_append, Bool.and_eq_true] at h
    exact h
  have := numF_grow (s.drop k) (s.take k) h1.2 (numF_nonneg _ h1.1)
  rwa [List.take_append_drop] at this
theorem numAns_none {s : List UInt8} {most : Int} (h : ¬ (s ≠ [] ∧ s.length ≤ 20 ∧ (s.getD 0 0 = 48 → s.length ≤ 1) ∧ s.all dig = true ∧ numF s ≤ most)) : (numAns s most).1 = 0 ∧ (numAns s most).2 = false := by
  unfold numAns number
  rw [if_neg h]
  exact ⟨rfl, rfl⟩
theorem numAns_some {s : List UInt8} {most : Int} (h : s ≠ [] ∧ s.length ≤ 20 ∧ (s.getD 0 0 = 48 → s.length ≤ 1) ∧ s.all dig = true ∧ numF s ≤ most) : (numAns s most).1 = numF s ∧ (numAns s most).2 = true := by
  unfold numAns number
  rw [if_pos h]
  exact ⟨rfl, rfl⟩
theorem all_at {s : List UInt8} {x : Nat} (h : s.all dig = true) (hx : x < s.length) : 48 ≤ (s.getD x 0).toNat ∧ (s.getD x 0).toNat ≤ 57 := by
  have := List.all_eq_true.1 h (s.getD x 0) (by rw [List.getD_eq_getElem?_getD, List.getElem?_eq_getElem hx]; exact List.getElem_mem hx)
  simpa [dig] using this
end Go.Sx
