/- DenW: operations that make memory. -/
import Derived.Test.YtmgeeanbecmkbaaGreatDoorDenV
import Derived.Great.BuildSlice
import Derived.Laws.MakeOwn
namespace Go.Proofs.YtmgeeanbecmkbaaGreatDoor.Den
open Go
set_option linter.unusedVariables false

section
variable {P : Program} {C : Cfg} {E : Entry C} {S S' : AS} {X X' : Ctx} {a : Act} {w w' : World}

theorem look_cons {α : Type} (k : Nat) (v : α) (l : List (Nat × α)) (d : Nat) : look ((k, v) :: l) d = if k = d then some v else look l d := by
  show (bif Nat.beq k d then some v else look l d) = _
  by_cases h : k = d
  · subst h
    rw [if_pos rfl, Nat.beq_refl]; rfl
  · rw [if_neg h]
    have : Nat.beq k d = false := by
      cases hb : Nat.beq k d
      · rfl
      · exact absurd (Nat.eq_of_beq_eq_true hb) h
    rw [this]
    rfl

theorem box_newBox (S : AS) (B : Box) (b : Nat) : (S.newBox B).box b = if S.nb = b then B else S.box b := by
  unfold AS.newBox AS.box
  rw [look_cons]
  split <;> rfl

theorem look_upd (b : Nat) (x : Box) : ∀ (l : List (Nat × Box)) (d : Nat), look (updL b x l) d = if b = d then some x else look l d
  | [], d => by rw [updL, look_cons]
  | (k, y) :: r, d => by
    unfold updL
    cases hk : Nat.beq k b with
    | true =>
      simp only [cond_true]
      have hk := Nat.eq_of_beq_eq_true hk
      subst hk
      rw [look_cons, look_cons]
      split <;> rfl
    | false =>
      simp only [cond_false]
      rw [look_cons, look_cons, look_upd b x r d]
      by_cases e : k = d
      · rw [if_pos e, if_pos e, if_neg (fun e2 => by rw [e2, e] at hk; simp at hk)]
      · rw [if_neg e, if_neg e]

theorem box_setBox (S : AS) (b0 : Nat) (B : Box) (b : Nat) : (S.setBox b0 B).box b = if b0 = b then B else S.box b := by
  unfold AS.setBox AS.box
  dsimp only
  rw [look_upd]
  split <;> rfl

theorem get_put (S : AS) (d : Nat) (v : AV) (i : Nat) : (S.put d v).get i = if d = i then v else S.get i := by
  unfold AS.put AS.get
  rw [look_cons]
  split <;> rfl

theorem BoxRep.keep {b : Nat} {B : Box} (h : BoxRep C X S w b B) (L : Le S S' X X' w w') (hh : w'.heap[X.β b]? = w.heap[X.β b]?) (hβ : X'.β b = X.β b) (hR : ∀ o, X'.R (X.β b) o → X.R (X.β b) o) : BoxRep C X' S' w' b B := by
  cases B with
  | fld T fs =>
    obtain ⟨t, cs, h1, h2, h3, h4, h5, h6, h7⟩ := h
    exact ⟨t, cs, h1, h2, h3, h4.le L, by rw [hβ, hh]; exact h5, (fun o => by rw [hβ]; exact fun r => h6 o (hR o r)), by rw [hβ]; exact h7⟩
  | leaf T d =>
    obtain ⟨cs, h1, h2, h4, h5, h6⟩ := h
    exact ⟨cs, h1, h2, h4.le L, by rw [hβ, hh]; exact h5, fun o => by rw [hβ]; exact fun r => h6 o (hR o r)⟩
  | arr e t xs =>
    obtain ⟨cs, h1, h2, h3, h4⟩ := h
    exact ⟨cs, h1, h2.le L, by rw [hβ, hh]; exact h3, fun o => by rw [hβ]; exact fun r => h4 o (hR o r)⟩
  | dead => trivial

theorem ownsRow_keep {e : TypeId} {sz n : Nat} {v : Value} {cells : List Value} (h : w.ownsRow 0 e sz v n cells) (hh : ∀ g, v.ownBlock = some g → w'.heap[g]? = w.heap[g]?) : w'.ownsRow 0 e sz v n cells := by
  refine ⟨h.1, ?_⟩
  rcases h.2 with h2 | ⟨g, cap, cur, rfl, h3, h4, h5⟩
  · exact .inl h2
  · exact .inr ⟨g, cap, cur, rfl, h3, by rw [hh g rfl]; exact h4, h5⟩

theorem IdRep.keep {k : Nat} (h : IdRep X w k) (h1 : X'.hd k = X.hd k) (h2 : X'.inf k = X.inf k) (hh : ∀ g, (X.hd k).ownBlock = some g → w'.heap[g]? = w.heap[g]? ∧ ∀ o, X'.R g o ↔ X.R g o) : IdRep X' w' k := by
  obtain ⟨cells, p, q⟩ := h
  refine ⟨cells, ?_, ?_⟩
  · rw [h1, h2]; exact ownsRow_keep p fun g hg => (hh g hg).1
  · rw [h1, h2]
    intro g hg o
    rw [(hh g hg).2 o]
    exact q g hg o

theorem id_lt {k g : Nat} (h : IdRep X w k) (hg : (X.hd k).ownBlock = some g) : g < w.heap.size := by
  obtain ⟨cells, p, _⟩ := h
  exact (p.lt g hg).2

theorem heap_lt {g : Nat} {o : Obj} (h : w.heap[g]? = some o) : g < w.heap.size := (Array.getElem?_eq_some_iff.1 h).1

theorem box_lt {b : Nat} {B : Box} (h : BoxRep C X S w b B) (hB : B ≠ .dead) : X.β b < w.heap.size := by
  cases B with
  | fld T fs => obtain ⟨t, cs, _, _, _, _, h5, _⟩ := h; exact heap_lt h5
  | leaf T d => obtain ⟨cs, _, _, _, h5, _⟩ := h; exact heap_lt h5
  | arr e t xs => obtain ⟨cs, _, _, h3, _⟩ := h; exact heap_lt h3
  | dead => exact absurd rfl hB

theorem keeps_block {R R' : Nat → Nat → Prop} (hs : ∀ g o, R g o → R' g o) (hh : ∀ g o, R g o → w'.heap[g]? = w.heap[g]?) : Keeps R R' w w' :=
  ⟨hs, fun g o r => by simp [World.cell?, hh g o r]⟩

theorem heap_old {o : Obj} {g : Nat} (h : g < w.heap.size) : (w.alloc o).heap[g]? = w.heap[g]? := heap_alloc_old w o h

theorem alloc_frame {R : Nat → Nat → Prop} (h : Frame' E R w) (o : Obj) : Frame' E R (w.alloc o) :=
  ⟨h.os, h.tape, h.output, by simp; exact Nat.le_succ_of_le h.size, fun g hg hw => (heap_old (Nat.lt_of_lt_of_le hg h.size)).trans (h.block g hg hw), h.sub, h.new, fun g o r => by simp; exact Nat.lt_succ_of_lt (h.lt g o r)⟩

def Ctx.withBox (X : Ctx) (b g : Nat) : Ctx := { X with β := fun i => if i = b then g else X.β i }

theorem le_newBox (h : Sim C E S X a w) (B : Box) (o : Obj) : Le S (S.newBox B) X (X.withBox S.nb w.heap.size) w (w.alloc o) := by
  refine ⟨keeps_block (fun _ _ r => r) (fun g _ r => heap_old (h.fr.lt _ _ r)), Nat.le_succ _, fun b hb => ⟨?_, ?_⟩, Nat.le_refl _, fun k hk => ⟨Nat.le_refl _, fun _ => ⟨rfl, rfl⟩⟩⟩
  · rw [box_newBox, if_neg (by omega)]
  · simp only [Ctx.withBox]; rw [if_neg (by omega)]

theorem Sim.newBox (h : Sim C E S X a w) (B : Box) (o : Obj) (hB : BoxRep C (X.withBox S.nb w.heap.size) (S.newBox B) (w.alloc o) S.nb B) : Sim C E (S.newBox B) (X.withBox S.nb w.heap.size) a (w.alloc o) := by
  have L := le_newBox h B o
  have β0 : ∀ b, b < S.nb → (X.withBox S.nb w.heap.size).β b = X.β b := fun b hb => (L.sh b hb).2
  have β1 : (X.withBox S.nb w.heap.size).β S.nb = w.heap.size := by simp [Ctx.withBox]
  have bold : ∀ b, b < S.nb → (S.newBox B).box b = S.box b := fun b hb => by rw [box_newBox, if_neg (by omega)]
  have bnew : (S.newBox B).box S.nb = B := by rw [box_newBox, if_pos rfl]
  have lt : ∀ b, b < S.nb → S.box b ≠ .dead → X.β b < w.heap.size := fun b hb hd => box_lt (h.bx b hb) hd
  refine { dfr := h.dfr, sz := h.sz, tm := fun d => (h.tm d).le L, bx := ?_, idk := ?_, bd := ?_, ib := ?_, ii := h.ii, wb := ?_, wi := h.wi, ent := h.ent.le L, ck := h.ck.trans L.kp, fr := alloc_frame h.fr o }
  · intro b hb
    rcases Nat.lt_or_ge b S.nb with hlt | hge
    · rw [bold b hlt]
      by_cases hd : S.box b = .dead
      · rw [hd]; trivial
      · exact (h.bx b hlt).keep L (heap_old (lt b hlt hd)) (β0 b hlt) (fun _ r => r)
    · have : b = S.nb := by simp [AS.newBox] at hb; omega
      subst this
      rw [bnew]; exact hB
  · intro k hk
    exact (h.idk k hk).keep rfl rfl fun g hg => ⟨heap_old (id_lt (h.idk k hk) hg), fun _ => Iff.rfl⟩
  · intro b b' hb hb' hd hd' e
    simp [AS.newBox] at hb hb'
    rcases Nat.lt_or_ge b S.nb with h1 | h1 <;> rcases Nat.lt_or_ge b' S.nb with h2 | h2
    · rw [bold b h1] at hd; rw [bold b' h2] at hd'; rw [β0 b h1, β0 b' h2] at e
      exact h.bd b b' h1 h2 hd hd' e
    · have e2 : b' = S.nb := by omega
      subst e2
      rw [bold b h1] at hd; rw [β0 b h1, β1] at e
      have := lt b h1 hd; omega
    · have e2 : b = S.nb := by omega
      subst e2
      rw [bold b' h2] at hd'; rw [β0 b' h2, β1] at e
      have := lt b' h2 hd'; omega
    · omega
  · intro k b hk hb hd e
    simp [AS.newBox] at hb
    rcases Nat.lt_or_ge b S.nb with h1 | h1
    · rw [bold b h1] at hd; rw [β0 b h1] at e
      exact h.ib k b hk h1 hd e
    · have e2 : b = S.nb := by omega
      subst e2
      rw [β1] at e
      have := id_lt (h.idk k hk) e; omega
  · intro b hb hd
    simp [AS.newBox] at hb
    rcases Nat.lt_or_ge b S.nb with h1 | h1
    · rw [bold b h1] at hd; rw [β0 b h1]; exact h.wb b h1 hd
    · have e2 : b = S.nb := by omega
      subst e2
      rw [β1]; exact .inr h.fr.size

theorem zeros_rep : ∀ {u : Ty}, u.isSt = true → (∀ l : List Dat, l.map (·.t) = tysOf u → ∃ x, pack u l = some x) → FsRep X S w (zeros u) (zeroCells u) ∧ (zeros u).map (·.t) = tysOf u
  | .unit, _, _ => ⟨rfl, rfl⟩
  | .pair a b, _, hp => by
    have hb : b.isSt = true := by
      obtain ⟨x, hx⟩ := hp (zeros (.pair a b)) (zeros_tys _)
      simp only [zeros, pack] at hx
      split at hx
      · rename_i y z hy hz
        exact pack_st hz
      · cases hx
    have hp' : ∀ l : List Dat, l.map (·.t) = tysOf b → ∃ x, pack b l = some x := by
      intro l hl
      obtain ⟨x, hx⟩ := hp (⟨a, a.zero, .ro⟩ :: l) (by simp [tysOf, hl])
      simp only [pack] at hx
      split at hx
      · rename_i y z hy hz; exact ⟨_, hz⟩
      · cases hx
    obtain ⟨h1, h2⟩ := zeros_rep (u := b) hb hp'
    exact ⟨⟨_, _, rfl, ⟨reads_zero _ _ a, zero_tag a⟩, h1⟩, by simp [zeros, tysOf, h2]⟩
  | .int _, h, _ => by simp [Ty.isSt] at h
  | .bool, h, _ => by simp [Ty.isSt] at h
  | .str, h, _ => by simp [Ty.isSt] at h
  | .err, h, _ => by simp [Ty.isSt] at h
  | .ptr, h, _ => by simp [Ty.isSt] at h
  | .slice _ _, h, _ => by simp [Ty.isSt] at h
  where
  zeros_tys : ∀ u : Ty, (zeros u).map (·.t) = tysOf u
    | .pair a b => by simp [zeros, tysOf, zeros_tys b]
    | .int _ => rfl
    | .bool => rfl
    | .str => rfl
    | .err => rfl
    | .ptr => rfl
    | .unit => rfl
    | .slice _ _ => rfl
  pack_st : ∀ {u : Ty} {l : List Dat} {x : u.D}, pack u l = some x → u.isSt = true
    | .pair _ _, _, _, _ => rfl
    | .unit, _, _, _ => rfl
    | .int _, l, _, h => by cases l <;> simp [pack] at h
    | .bool, l, _, h => by cases l <;> simp [pack] at h
    | .str, l, _, h => by cases l <;> simp [pack] at h
    | .err, l, _, h => by cases l <;> simp [pack] at h
    | .ptr, l, _, h => by cases l <;> simp [pack] at h
    | .slice _ _, l, _, h => by cases l <;> simp [pack] at h
  zero_tag : ∀ a : Ty, TagOk X S ⟨a, a.zero, Tag.zeroOf a⟩ (zeroCells a)
    | .int _ => trivial
    | .bool => trivial
    | .str => trivial
    | .err => trivial
    | .ptr => trivial
    | .unit => trivial
    | .pair _ _ => trivial
    | .slice _ _ => rfl

theorem zero_self (t : Ty) (g : Nat) : SelfC g t (zeroCells t) := by
  cases t with
  | pair a b =>
    cases a with
    | ptr => exact .inl rfl
    | _ => trivial
  | _ => trivial

theorem self_ok {t : Ty} {fs : List Dat} {cs : List Value} (h1 : FsRep X S w fs cs) (h2 : fs.map (·.t) = tysOf t) (h : okHead fs = true) (g : Nat) : SelfC g t cs := by
  cases t with
  | pair a b =>
    cases a with
    | ptr =>
      cases cs with
      | nil => trivial
      | cons c r =>
        cases fs with
        | nil => simp [tysOf] at h2
        | cons d l =>
          obtain ⟨dt, dx, tg⟩ := d
          simp only [List.map_cons, tysOf, List.cons.injEq] at h2
          obtain ⟨e, _⟩ := h2
          subst e
          have hx : dx = true := h
          subst hx
          obtain ⟨c1, c2, e1, ⟨q1, _⟩, _⟩ := h1
          have q1 : c1 = [.pointer none] := q1
          rw [q1] at e1
          injection e1 with e1 _
          exact .inl e1
    | _ => trivial
  | _ => trivial

theorem exec_alloc {o : Oper} {e : TypeId} {u : Ty} (ho : o.op = .alloc e) (hT : TyOK P C e u) : (execOp a.eval o).run P w = .ok (.value (.pointer (some ⟨w.heap.size, 0, none⟩))) (w.alloc (.cells (zeroCells u).toArray e)) := by
  unfold execOp; rw [ho]; dsimp only
  simp only [Sem.run_bind, Instr.alloc, zeroValue_run hT, Result.andThen_ok, run_newVar_cells (zeroVal_cells u), Sem.run_pure]

theorem op_alloc {Out : Type} (hC : CfgOK P C) {o : Oper} {e : TypeId} {k : AV → AS → Option Out} {r : Out} {env : Env C} (ho : o.op = .alloc e) (h : evalOp C env S o k = some r) (hs : Sim C E S X a w) :
    ∃ v S', k v S' = some r ∧ OpRes P C E o a w S' v := by
  unfold evalOp at h; rw [ho] at h; dsimp only at h
  split at h
  · rename_i t ht
    have hT := hC _ _ ht
    have hex := exec_alloc (a := a) (w := w) ho hT
    have hg : (w.alloc (.cells (zeroCells t).toArray e)).heap[w.heap.size]? = some (.cells (zeroCells t).toArray e (0, 0)) := heap_alloc_new w _
    have hRn : ∀ o, ¬ X.R w.heap.size o := fun o r => Nat.lt_irrefl _ (hs.fr.lt _ _ r)
    cases hst : t.isSt <;> rw [hst] at h <;> simp only [cond_true, cond_false] at h
    · refine ⟨_, _, h, OpRes.value hex (hs.newBox _ _ ?_) ⟨e, t, 0, by simp [AS.newBox], by rw [box_newBox, if_pos rfl]; rfl, ht, offs_nil t, by simp [Ctx.withBox]⟩⟩
      exact ⟨zeroCells t, ht, hst, ⟨reads_zero _ _ t, zeros_rep.zero_tag t⟩, by simpa [Ctx.withBox] using hg, fun o => by simpa [Ctx.withBox] using hRn o⟩
    · obtain ⟨z1, z2⟩ := zeros_rep (X := X.withBox S.nb w.heap.size) (S := S.newBox (.fld e (zeros t))) (w := w.alloc (.cells (zeroCells t).toArray e)) hst (fun l hl => pack_ok hT hst hl)
      refine ⟨_, _, h, OpRes.value hex (hs.newBox _ _ ?_) ⟨e, t, 0, by simp [AS.newBox], by rw [box_newBox, if_pos rfl]; rfl, ht, offs_nil t, by simp [Ctx.withBox]⟩⟩
      exact ⟨t, zeroCells t, ht, hst, z2, z1, by simpa [Ctx.withBox] using hg, (fun o => by simpa [Ctx.withBox] using hRn o), zero_self _ _⟩
  · cases h

theorem unpack_rep : ∀ {u : Ty} {x : u.D} {cs : List Value}, u.isSt = true → (∀ l : List Dat, l.map (·.t) = tysOf u → ∃ x, pack u l = some x) → Reads X.R w u x cs → FsRep X S w (unpack u x) cs ∧ (unpack u x).map (·.t) = tysOf u
  | .unit, _, _, _, _, h => ⟨h, rfl⟩
  | .pair a b, x, cs, _, hp, h => by
    obtain ⟨c1, c2, rfl, h1, h2⟩ := h
    have hp' : ∀ l : List Dat, l.map (·.t) = tysOf b → ∃ x, pack b l = some x := by
      intro l hl
      obtain ⟨x, hx⟩ := hp (⟨a, a.zero, .ro⟩ :: l) (by simp [tysOf, hl])
      simp only [pack] at hx
      split at hx
      · rename_i y z hy hz; exact ⟨_, hz⟩
      · cases hx
    have hb : b.isSt = true := by
      obtain ⟨x, hx⟩ := hp' (zeros b) (zeros_rep.zeros_tys b)
      exact zeros_rep.pack_st hx
    obtain ⟨q1, q2⟩ := unpack_rep hb hp' h2
    exact ⟨⟨c1, c2, rfl, ⟨h1, trivial⟩, q1⟩, by simp [unpack, tysOf, q2]⟩
  | .int _, _, _, h, _, _ => by simp [Ty.isSt] at h
  | .bool, _, _, h, _, _ => by simp [Ty.isSt] at h
  | .str, _, _, h, _, _ => by simp [Ty.isSt] at h
  | .err, _, _, h, _, _ => by simp [Ty.isSt] at h
  | .ptr, _, _, h, _, _ => by simp [Ty.isSt] at h
  | .slice _ _, _, _, h, _, _ => by simp [Ty.isSt] at h

theorem pack_tys : ∀ {u : Ty} {l : List Dat} {x : u.D}, pack u l = some x → l.map (·.t) = tysOf u
  | .pair a b, d :: r, x, h => by
    simp only [pack] at h
    split at h
    · rename_i y z hy hz
      obtain ⟨e, _⟩ := castD_some hy
      simp [tysOf, e, pack_tys hz]
    · cases h
  | .unit, [], _, _ => rfl
  | .pair _ _, [], _, h => by simp [pack] at h
  | .unit, _ :: _, _, h => by simp [pack] at h
  | .int _, l, _, h => by cases l <;> simp [pack] at h
  | .bool, l, _, h => by cases l <;> simp [pack] at h
  | .str, l, _, h => by cases l <;> simp [pack] at h
  | .err, l, _, h => by cases l <;> simp [pack] at h
  | .ptr, l, _, h => by cases l <;> simp [pack] at h
  | .slice _ _, l, _, h => by cases l <;> simp [pack] at h

/-- A struct's value as fields. -/
theorem toFs_rep {t : TypeId} {u : Ty} {v : AV} {fs : List Dat} {c : Value} (hT : TyOK P C t u) (hst : u.isSt = true) (h : toFs u v = some fs) (hv : RepV C X S w v c) :
    ∃ cs, FsRep X S w fs cs ∧ fs.map (·.t) = tysOf u ∧ c = .agg cs.toArray := by
  unfold toFs at h
  split at h
  · rename_i d
    split at h
    · rename_i x hx
      injection h with h; subst h
      obtain ⟨cs, h1, h2⟩ := hv
      rw [castD_mk hx] at h1 h2
      obtain ⟨q1, q2⟩ := unpack_rep (S := S) hst (fun l hl => pack_ok hT hst hl) h1.1
      exact ⟨cs, q1, q2, by simpa [toVal, hst] using h2⟩
    · cases h
  · rename_i gs
    split at h
    · rename_i x hx
      injection h with h; subst h
      obtain ⟨cs, h1, h2⟩ := hv
      exact ⟨cs, h1, pack_tys hx, h2⟩
    · cases h
  · cases h

theorem exec_box {o : Oper} {e : TypeId} {x : Operand} {cs : List Value} (ho : o.op = .box e x) (h : (a.eval x).cells = cs.toArray) : (execOp a.eval o).run P w = .ok (.value (.pointer (some ⟨w.heap.size, 0, none⟩))) (w.alloc (.cells cs.toArray e)) := by
  unfold execOp; rw [ho]; dsimp only
  simp only [Sem.run_bind, Instr.box, run_newVar_cells h, Result.andThen_ok, Sem.run_pure]

theorem op_box {Out : Type} (hC : CfgOK P C) {o : Oper} {e : TypeId} {x : Operand} {k : AV → AS → Option Out} {r : Out} {env : Env C} (ho : o.op = .box e x) (h : evalOp C env S o k = some r) (hs : Sim C E S X a w) :
    ∃ v S', k v S' = some r ∧ OpRes P C E o a w S' v := by
  have hx := opv_rep hs e x
  unfold evalOp at h; rw [ho] at h; dsimp only at h
  split at h
  · rename_i t ht
    have hT := hC _ _ ht
    have hg : ∀ cs : List Value, (w.alloc (.cells cs.toArray e)).heap[w.heap.size]? = some (.cells cs.toArray e (0, 0)) := fun cs => heap_alloc_new w _
    have hRn : ∀ o, ¬ X.R w.heap.size o := fun o r => Nat.lt_irrefl _ (hs.fr.lt _ _ r)
    cases hst : t.isSt <;> rw [hst] at h <;> simp only [cond_true, cond_false] at h
    · split at h
      · rename_i d hd
        split at h
        · rename_i y hy
          rw [hd] at hx
          obtain ⟨cs, h1, h2⟩ := hx
          rw [castD_mk hy] at h1 h2
          have hcc := cells_of_toVal h1.1 h2
          refine ⟨_, _, h, OpRes.value (exec_box ho hcc) (hs.newBox _ _ ?_) ⟨e, t, 0, by simp [AS.newBox], by rw [box_newBox, if_pos rfl]; rfl, ht, offs_nil t, by simp [Ctx.withBox]⟩⟩
          exact ⟨cs, ht, hst, h1.le (le_newBox hs _ _), by simpa [Ctx.withBox] using hg cs, fun o => by simpa [Ctx.withBox] using hRn o⟩
        · cases h
      · cases h
    · split at h
      · rename_i fs hfs
        cases hok : okHead fs <;> rw [hok] at h <;> simp only [cond_true, cond_false] at h
        · cases h
        obtain ⟨cs, h1, h2, h3⟩ := toFs_rep hT hst hfs hx
        have hcc : (a.eval x).cells = cs.toArray := by rw [h3]; rfl
        refine ⟨_, _, h, OpRes.value (exec_box ho hcc) (hs.newBox _ _ ?_) ⟨e, t, 0, by simp [AS.newBox], by rw [box_newBox, if_pos rfl]; rfl, ht, offs_nil t, by simp [Ctx.withBox]⟩⟩
        exact ⟨t, cs, ht, hst, h2, h1.le (le_newBox hs _ _), by simpa [Ctx.withBox] using hg cs, (fun o => by simpa [Ctx.withBox] using hRn o), self_ok h1 h2 hok _⟩
      · cases h
  · cases h

end
end Go.Proofs.YtmgeeanbecmkbaaGreatDoor.Den
