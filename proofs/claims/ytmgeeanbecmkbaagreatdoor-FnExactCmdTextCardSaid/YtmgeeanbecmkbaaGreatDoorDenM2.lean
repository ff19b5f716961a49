/- DenM2: regions. -/
import Derived.Test.YtmgeeanbecmkbaaGreatDoorDenM
namespace Go.Proofs.YtmgeeanbecmkbaaGreatDoor.Den
open Go
set_option linter.unusedVariables false

section
variable {P : Program} {C : Cfg} {E : Entry C} {S S' T : AS} {X X' : Ctx} {a : Act} {w w' : World}

theorem nbeq {i j : Nat} (h : i ≠ j) : Nat.beq i j = false := by
  cases h2 : Nat.beq i j with
  | false => rfl
  | true => exact absurd (Nat.eq_of_beq_eq_true h2) h

theorem repl_false (n j : Nat) : (Array.replicate n false).getD j false = false := by
  simp [Array.getD]

theorem Sim.like (h : Sim C E S X a w) (hg : ∀ d, T.get d = S.get d) (hm : T.mem = S.mem) : Sim C E T X a w := by
  have e := mem_vals hm
  have hb : ∀ b, T.box b = S.box b := fun b => by rw [e]; rfl
  have hv : ∀ k, T.ver k = S.ver k := fun k => by rw [e]; rfl
  have hnb : T.nb = S.nb := by rw [e]
  have hnid : T.nid = S.nid := by rw [e]
  have L : Le S T X X w w := ⟨Keeps.refl _ _, Nat.le_of_eq hnb.symm, fun b _ => ⟨by rw [hb], rfl⟩, Nat.le_of_eq hnid.symm, fun k _ => ⟨by rw [hv]; exact Nat.le_refl _, fun _ => ⟨rfl, rfl⟩⟩⟩
  refine { dfr := h.dfr, sz := by rw [e]; exact h.sz, tm := fun d => ?_, bx := fun b hb' => ?_, idk := ?_, bd := ?_, ib := ?_, ii := ?_, wb := ?_, wi := ?_, ent := h.ent.le L, ck := h.ck.trans L.kp, fr := h.fr }
  · rw [hg]; exact (h.tm d).le L
  · rw [hb]
    rw [hnb] at hb'
    by_cases hdd : S.box b = .dead
    · rw [hdd]; trivial
    · exact (h.bx b hb').keep L rfl rfl (fun _ r => r)
  · rw [hnid]; exact h.idk
  · simp only [hnb, hb]; exact h.bd
  · simp only [hnb, hnid, hb]; exact h.ib
  · rw [hnid]; exact h.ii
  · simp only [hnb, hb]; exact h.wb
  · rw [hnid]; exact h.wi

theorem Sim.setDr (h : Sim C E S X a w) (b : Bool) : Sim C E { S with dr := b } X a w := by
  have L : Le S { S with dr := b } X X w w := ⟨Keeps.refl _ _, Nat.le_refl _, fun _ _ => ⟨rfl, rfl⟩, Nat.le_refl _, fun _ _ => ⟨Nat.le_refl _, fun _ => ⟨rfl, rfl⟩⟩⟩
  refine { dfr := h.dfr, sz := h.sz, tm := fun d => (h.tm d).le L, bx := fun b hb' => ?_, idk := h.idk, bd := h.bd, ib := h.ib, ii := h.ii, wb := h.wb, wi := h.wi, ent := h.ent.le L, ck := h.ck.trans L.kp, fr := h.fr }
  by_cases hdd : S.box b = .dead
  · show BoxRep C X _ w b (S.box b)
    rw [hdd]; trivial
  · exact (h.bx b hb').keep L rfl rfl (fun _ r => r)

/-- A draw is nothing that the call's own state shows. -/
theorem Sim.drawn (h : Sim C E S X a w) (n : Nat) : Sim C E S X a { w with drawn := n } := by
  have K : Keeps X.R X.R w { w with drawn := n } := ⟨fun _ _ r => r, fun _ _ _ => rfl⟩
  have L : Le S S X X w { w with drawn := n } := ⟨K, Nat.le_refl _, fun _ _ => ⟨rfl, rfl⟩, Nat.le_refl _, fun _ _ => ⟨Nat.le_refl _, fun _ => ⟨rfl, rfl⟩⟩⟩
  refine { dfr := h.dfr, sz := h.sz, tm := fun d => (h.tm d).le L, bx := fun b hb' => ?_, idk := fun k hk => ?_, bd := h.bd, ib := h.ib, ii := h.ii, wb := h.wb, wi := h.wi, ent := h.ent.le L, ck := h.ck.trans L.kp, fr := ?_ }
  · by_cases hdd : S.box b = .dead
    · rw [hdd]; trivial
    · exact (h.bx b hb').keep L rfl rfl (fun _ r => r)
  · exact (h.idk k hk).keep rfl rfl fun g _ => ⟨rfl, fun _ => Iff.rfl⟩
  · exact { os := h.fr.os, tape := h.fr.tape, output := h.fr.output, size := h.fr.size, block := h.fr.block, sub := h.fr.sub, new := h.fr.new, lt := h.fr.lt }

end

section
variable {P : Program} {C : Cfg} {env : Env C} {ops : Array Oper} {Tr : Nat → AS} {V : Nat → AV} {W : Nat → Bool} {c : Nat → Cls} {B : Nat → Box}

def dstAt (ops : Array Oper) (j : Nat) : Option Nat := (ops[j]?).bind (·.dst)

/-- What a temporary holds once the operations of D have come up; and the memory then. -/
def valOf (ops : Array Oper) (Tr : Nat → AS) (V : Nat → AV) (D : Nat → Bool) : Nat → Nat → AV
  | 0, d => (Tr 0).get d
  | j + 1, d => if D j = true ∧ dstAt ops j = some d then V j else valOf ops Tr V D j d

def upd (M : AS) (c : Cls) (B : Box) (T : AS) : AS :=
  match c with
  | .quiet => M
  | .rd _ => M
  | .wr b => M.setBox b B
  | .all => T.mem

def memOf (Tr : Nat → AS) (c : Nat → Cls) (B : Nat → Box) (D : Nat → Bool) : Nat → AS
  | 0 => (Tr 0).mem
  | j + 1 => if D j = true then upd (memOf Tr c B D j) (c j) (B j) (Tr (j + 1)) else memOf Tr c B D j

/-- A variable that an operation does not clash over stays. -/
theorem upd_box {M : AS} {ck ci : Cls} {Bk : Box} {T : AS} {b : Nat} (hi : ci = .rd b ∨ ci = .wr b) (h : clash ck ci = false) (h2 : clash ci ck = false) : (upd M ck Bk T).box b = M.box b := by
  unfold upd
  cases ck with
  | quiet => rfl
  | rd _ => rfl
  | wr b' =>
    dsimp only
    rw [box_setBox, if_neg]
    intro e
    rcases hi with rfl | rfl <;> simp [clash, e] at h
  | all => rcases hi with rfl | rfl <;> simp [clash] at h

theorem upd_same {M N : AS} {ck : Cls} {Bk : Box} {T : AS} {b : Nat} (h : M.box b = N.box b) : (upd M ck Bk T).box b = (upd N ck Bk T).box b := by
  unfold upd
  cases ck with
  | quiet => exact h
  | rd _ => exact h
  | wr b' => dsimp only; rw [box_setBox, box_setBox, h]
  | all => rfl

theorem clash_symm (a b : Cls) : clash a b = clash b a := by
  cases a <;> cases b <;> first
    | rfl
    | (simp only [clash]; rw [Bool.eq_iff_iff]; simp; exact eq_comm)

theorem quiet_of {ck : Cls} (h : clash ck .all = false) : ck = .quiet := by
  cases ck <;> first | rfl | (simp [clash] at h)

theorem upd_comm : ∀ {l : List (Nat × Box)} {b b' : Nat} {x y : Box}, b ≠ b' → look l b ≠ none → look l b' ≠ none → updL b x (updL b' y l) = updL b' y (updL b x l)
  | [], b, b', x, y, hne, h, _ => absurd rfl h
  | (k, z) :: r, b, b', x, y, hne, h1, h2 => by
    rw [look_cons] at h1 h2
    by_cases e : k = b
    · subst e
      have hkb : Nat.beq k b' = false := nbeq hne
      have hbk : Nat.beq k k = true := Nat.beq_refl k
      simp only [updL, hkb, hbk, cond_true, cond_false]
    · by_cases e' : k = b'
      · subst e'
        have hkb : Nat.beq k b = false := nbeq e
        have hbk : Nat.beq k k = true := Nat.beq_refl k
        simp only [updL, hkb, hbk, cond_true, cond_false]
      · have hkb : Nat.beq k b = false := nbeq e
        have hkb' : Nat.beq k b' = false := nbeq e'
        rw [if_neg e] at h1; rw [if_neg e'] at h2
        simp only [updL, hkb, hkb', cond_false]
        rw [upd_comm hne h1 h2]

theorem setBox_comm {S : AS} {b b' : Nat} {x y : Box} (hne : b ≠ b') (h1 : S.box b ≠ .dead) (h2 : S.box b' ≠ .dead) : (S.setBox b' y).setBox b x = (S.setBox b x).setBox b' y := by
  unfold AS.setBox
  have k1 : look S.boxes b ≠ none := fun e => h1 (by unfold AS.box; rw [e]; rfl)
  have k2 : look S.boxes b' ≠ none := fun e => h2 (by unfold AS.box; rw [e]; rfl)
  dsimp only
  rw [upd_comm hne k1 k2]

structure Run (C : Cfg) (env : Env C) (ops : Array Oper) (Tr : Nat → AS) (V : Nat → AV) (W : Nat → Bool) (c : Nat → Cls) (B : Nat → Box) : Prop where
  ok : drawOk ops (rowsOf ops) = true
  tr : ∀ j, j < ops.size → ∃ o, ops[j]? = some o ∧ TrOK C env ops Tr V W c B j o
  ord : ∀ j j2, j < j2 → j2 < ops.size → clash (c j) (c j2) = true → bitOf ops j2 j


theorem Run.get_step (H : Run C env ops Tr V W c B) {j : Nat} (hj : j < ops.size) (d : Nat) : (Tr (j + 1)).get d = if dstAt ops j = some d then V j else (Tr j).get d := by
  obtain ⟨o, ho, t⟩ := H.tr j hj
  rw [t.get d]
  unfold dstAt
  rw [ho]; rfl

/-- What the operation that comes up reads is what it reads in the text's own order. -/
theorem Run.read (H : Run C env ops Tr V W c B) {D : Nat → Bool} (hD : Shut ops (D · = true)) {i : Nat} {o : Oper} (hi : i < ops.size) (ho : ops[i]? = some o) (hn : D i = false) (hb : ∀ j, bitOf ops i j → D j = true) {d : Nat} (hd : d ∈ o.looksAt ops) :
    valOf ops Tr V D ops.size d = (Tr i).get d := by
  have low : ∀ j, j ≤ i → valOf ops Tr V D j d = (Tr j).get d := by
    intro j
    induction j with
    | zero => intro _; rfl
    | succ j ih =>
      intro hj
      rw [H.get_step (by omega)]
      unfold valOf
      by_cases e : dstAt ops j = some d
      · rw [if_pos e]
        obtain ⟨oj, hoj⟩ : ∃ oj, ops[j]? = some oj := ⟨ops[j]'(by omega), Array.getElem?_eq_getElem (by omega)⟩
        have hdj : oj.dst = some d := by simpa [dstAt, hoj] using e
        rw [if_pos ⟨hb j ((drawOk_spec H.ok i o ho).2 j oj (by omega) hoj (shares_read hdj hd)), e⟩]
      · rw [if_neg e, if_neg (fun h => e h.2)]
        exact ih (by omega)
  have high : ∀ k, i + k ≤ ops.size → valOf ops Tr V D (i + k) d = valOf ops Tr V D i d := by
    intro k
    induction k with
    | zero => intro _; rfl
    | succ k ih =>
      intro hk
      rw [show i + (k + 1) = i + k + 1 by omega]
      rw [valOf, if_neg, ih (by omega)]
      rintro ⟨h1, h2⟩
      rcases Nat.eq_zero_or_pos k with h0 | h0
      · subst h0; rw [Nat.add_zero, hn] at h1; cases h1
      · obtain ⟨oj, hoj⟩ : ∃ oj, ops[i + k]? = some oj := ⟨ops[i + k]'(by omega), Array.getElem?_eq_getElem (by omega)⟩
        have hdj : oj.dst = some d := by simpa [dstAt, hoj] using h2
        have := hD.bef (i + k) i h1 ((drawOk_spec H.ok (i + k) oj hoj).2 i o (by omega) ho (shares_read' hdj hd))
        rw [hn] at this; cases this
  have := high (ops.size - i) (by omega)
  rw [show i + (ops.size - i) = ops.size by omega] at this
  rw [this, low i (Nat.le_refl _)]

/-- One step of the text's own order, on the memory. -/
theorem Run.mem_step (H : Run C env ops Tr V W c B) {j : Nat} (hj : j < ops.size) : (Tr (j + 1)).mem = upd (Tr j).mem (c j) (B j) (Tr (j + 1)) := by
  obtain ⟨o, ho, t⟩ := H.tr j hj
  unfold upd
  split
  · rename_i e; exact t.quiet e
  · rename_i b e; exact t.rd b e
  · rename_i b e; exact (t.wr b e).1
  · rfl

/-- What has come up of the operations ahead of i: the variable that i reads or writes is as in the text's order. -/
theorem Run.low_box (H : Run C env ops Tr V W c B) {D : Nat → Bool} {i b : Nat} (hi : i < ops.size) (hb : ∀ j, bitOf ops i j → D j = true) (hc : c i = .rd b ∨ c i = .wr b) : ∀ j, j ≤ i → (memOf Tr c B D j).box b = (Tr j).box b := by
  intro j
  induction j with
  | zero => intro _; rfl
  | succ j ih =>
    intro hj
    have ih := ih (by omega)
    have hstep : (Tr (j + 1)).box b = (upd (Tr j).mem (c j) (B j) (Tr (j + 1))).box b := by
      rw [← H.mem_step (by omega)]; rfl
    unfold memOf
    by_cases e : D j = true
    · rw [if_pos e, hstep]
      exact upd_same ih
    · rw [if_neg e, ih, hstep]
      have hcl : clash (c j) (c i) = false := by
        cases h : clash (c j) (c i) with
        | false => rfl
        | true => exact absurd (hb j (H.ord j i (by omega) hi h)) e
      exact (upd_box (M := (Tr j).mem) hc hcl (by rw [clash_symm]; exact hcl)).symm

theorem Run.box_at (H : Run C env ops Tr V W c B) {D : Nat → Bool} (hD : Shut ops (D · = true)) {i b : Nat} (hi : i < ops.size) (hn : D i = false) (hb : ∀ j, bitOf ops i j → D j = true) (hc : c i = .rd b ∨ c i = .wr b) (k : Nat) (hk : i + k ≤ ops.size) :
    (memOf Tr c B D (i + k)).box b = (Tr i).box b := by
  induction k with
  | zero => exact H.low_box hi hb hc i (Nat.le_refl _)
  | succ k ih =>
    have ih := ih (by omega)
    rw [show i + (k + 1) = i + k + 1 by omega]
    unfold memOf
    by_cases e : D (i + k) = true
    · rw [if_pos e]
      have hk0 : 0 < k := by
        rcases Nat.eq_zero_or_pos k with h0 | h0
        · subst h0; rw [Nat.add_zero, hn] at e; cases e
        · exact h0
      have hcl : clash (c i) (c (i + k)) = false := by
        cases h : clash (c i) (c (i + k)) with
        | false => rfl
        | true =>
          have := hD.bef (i + k) i e (H.ord i (i + k) (by omega) (by omega) h)
          rw [hn] at this; cases this
      rw [upd_box hc (by rw [clash_symm]; exact hcl) hcl, ih]
    · rw [if_neg e, ih]

theorem Run.memory (H : Run C env ops Tr V W c B) {D : Nat → Bool} (hD : Shut ops (D · = true)) {i : Nat} (hi : i < ops.size) (hn : D i = false) (hb : ∀ j, bitOf ops i j → D j = true) (hc : c i = .all) :
    memOf Tr c B D ops.size = (Tr i).mem := by
  have low : ∀ j, j ≤ i → memOf Tr c B D j = (Tr j).mem := by
    intro j
    induction j with
    | zero => intro _; rfl
    | succ j ih =>
      intro hj
      unfold memOf
      by_cases e : D j = true
      · rw [if_pos e, ih (by omega), ← H.mem_step (by omega)]
      · rw [if_neg e, ih (by omega), H.mem_step (by omega)]
        have hcl : clash (c j) .all = false := by
          cases h : clash (c j) .all with
          | false => rfl
          | true => exact absurd (hb j (H.ord j i (by omega) hi (by rw [hc]; exact h))) e
        rw [quiet_of hcl]; rfl
  have high : ∀ k, i + k ≤ ops.size → memOf Tr c B D (i + k) = memOf Tr c B D i := by
    intro k
    induction k with
    | zero => intro _; rfl
    | succ k ih =>
      intro hk
      rw [show i + (k + 1) = i + k + 1 by omega]
      rw [memOf]
      by_cases e : D (i + k) = true
      · rw [if_pos e]
        have hk0 : 0 < k := by
          rcases Nat.eq_zero_or_pos k with h0 | h0
          · subst h0; rw [Nat.add_zero, hn] at e; cases e
          · exact h0
        have hcl : clash (c (i + k)) .all = false := by
          cases h : clash (c (i + k)) .all with
          | false => rfl
          | true =>
            have := hD.bef (i + k) i e (H.ord i (i + k) (by omega) (by omega) (by rw [hc, clash_symm]; exact h))
            rw [hn] at this; cases this
        rw [quiet_of hcl]
        exact ih (by omega)
      · rw [if_neg e]; exact ih (by omega)
  have := high (ops.size - i) (by omega)
  rw [show i + (ops.size - i) = ops.size by omega] at this
  rw [this, low i (Nat.le_refl _)]

def addTo (D : Nat → Bool) (i : Nat) (j : Nat) : Bool := D j || Nat.beq i j

theorem Run.val_add (H : Run C env ops Tr V W c B) {D : Nat → Bool} (hD : Shut ops (D · = true)) {i : Nat} {o : Oper} (hi : i < ops.size) (ho : ops[i]? = some o) (hn : D i = false) (d : Nat) :
    valOf ops Tr V (addTo D i) ops.size d = if o.dst = some d then V i else valOf ops Tr V D ops.size d := by
  have low : ∀ j, j ≤ i → valOf ops Tr V (addTo D i) j d = valOf ops Tr V D j d := by
    intro j
    induction j with
    | zero => intro _; rfl
    | succ j ih =>
      intro hj
      have : addTo D i j = D j := by
        unfold addTo
        have : Nat.beq i j = false := nbeq (by omega)
        rw [this, Bool.or_false]
      rw [valOf, valOf, this, ih (by omega)]
  have mid : valOf ops Tr V (addTo D i) (i + 1) d = if o.dst = some d then V i else valOf ops Tr V D (i + 1) d := by
    have h1 : addTo D i i = true := by unfold addTo; simp
    have h2 : dstAt ops i = o.dst := by unfold dstAt; rw [ho]; rfl
    rw [valOf, valOf, h1, h2, hn, low i (Nat.le_refl _)]
    simp
  have high : ∀ k, i + 1 + k ≤ ops.size → valOf ops Tr V (addTo D i) (i + 1 + k) d = if o.dst = some d then V i else valOf ops Tr V D (i + 1 + k) d := by
    intro k
    induction k with
    | zero => intro _; exact mid
    | succ k ih =>
      intro hk
      rw [show i + 1 + (k + 1) = i + 1 + k + 1 by omega]
      have h1 : addTo D i (i + 1 + k) = D (i + 1 + k) := by
        unfold addTo
        have : Nat.beq i (i + 1 + k) = false := nbeq (by omega)
        rw [this, Bool.or_false]
      rw [valOf, valOf, h1, ih (by omega)]
      by_cases e : D (i + 1 + k) = true ∧ dstAt ops (i + 1 + k) = some d
      · rw [if_pos e, if_pos e]
        by_cases e2 : o.dst = some d
        · obtain ⟨oj, hoj⟩ : ∃ oj, ops[i + 1 + k]? = some oj := ⟨ops[i + 1 + k]'(by omega), Array.getElem?_eq_getElem (by omega)⟩
          have hdj : oj.dst = some d := by simpa [dstAt, hoj] using e.2
          have := hD.bef (i + 1 + k) i e.1 ((drawOk_spec H.ok (i + 1 + k) oj hoj).2 i o (by omega) ho (shares_dst e2 hdj))
          rw [hn] at this; cases this
        · rw [if_neg e2]
      · rw [if_neg e, if_neg e]
  have := high (ops.size - (i + 1)) (by omega)
  rwa [show i + 1 + (ops.size - (i + 1)) = ops.size by omega] at this

theorem Run.mem_add (H : Run C env ops Tr V W c B) {D : Nat → Bool} (hD : Shut ops (D · = true)) {i : Nat} (hi : i < ops.size) (hn : D i = false) (hb : ∀ j, bitOf ops i j → D j = true) :
    memOf Tr c B (addTo D i) ops.size = upd (memOf Tr c B D ops.size) (c i) (B i) (Tr (i + 1)) := by
  have low : ∀ j, j ≤ i → memOf Tr c B (addTo D i) j = memOf Tr c B D j := by
    intro j
    induction j with
    | zero => intro _; rfl
    | succ j ih =>
      intro hj
      have : addTo D i j = D j := by
        unfold addTo
        have : Nat.beq i j = false := nbeq (by omega)
        rw [this, Bool.or_false]
      rw [memOf, memOf, this, ih (by omega)]
  have mid : memOf Tr c B (addTo D i) (i + 1) = upd (memOf Tr c B D (i + 1)) (c i) (B i) (Tr (i + 1)) := by
    have h1 : addTo D i i = true := by unfold addTo; simp
    rw [memOf, memOf, h1, hn, low i (Nat.le_refl _)]
    simp
  have high : ∀ k, i + 1 + k ≤ ops.size → memOf Tr c B (addTo D i) (i + 1 + k) = upd (memOf Tr c B D (i + 1 + k)) (c i) (B i) (Tr (i + 1)) := by
    intro k
    induction k with
    | zero => intro _; exact mid
    | succ k ih =>
      intro hk
      rw [show i + 1 + (k + 1) = i + 1 + k + 1 by omega]
      have h1 : addTo D i (i + 1 + k) = D (i + 1 + k) := by
        unfold addTo
        have : Nat.beq i (i + 1 + k) = false := nbeq (by omega)
        rw [this, Bool.or_false]
      rw [memOf, memOf, h1, ih (by omega)]
      by_cases e : D (i + 1 + k) = true
      · rw [if_pos e, if_pos e]
        have hcl : clash (c i) (c (i + 1 + k)) = false := by
          cases h : clash (c i) (c (i + 1 + k)) with
          | false => rfl
          | true =>
            have := hD.bef (i + 1 + k) i e (H.ord i (i + 1 + k) (by omega) (by omega) h)
            rw [hn] at this; cases this
        cases hci : c i with
        | quiet => rfl
        | rd b => rfl
        | all =>
          rw [hci, clash_symm] at hcl
          rw [quiet_of hcl]; rfl
        | wr b =>
          cases hck : c (i + 1 + k) with
          | quiet => rfl
          | rd b' => rfl
          | all => rw [hci, hck] at hcl; simp [clash] at hcl
          | wr b' =>
            rw [hci, hck] at hcl
            have hne : b ≠ b' := fun e => by simp [clash, e] at hcl
            obtain ⟨oi, hoi, ti⟩ := H.tr i hi
            obtain ⟨ok, hok, tk⟩ := H.tr (i + 1 + k) (by omega)
            have p1 : (memOf Tr c B D (i + 1 + k)).box b ≠ .dead := by
              have := H.box_at hD hi hn hb (.inr hci) (1 + k) (by omega)
              rw [show i + (1 + k) = i + 1 + k by omega] at this
              rw [this]; exact (ti.wr b hci).2
            have p2 : (memOf Tr c B D (i + 1 + k)).box b' ≠ .dead := by
              rw [H.low_box (by omega) (fun j hj => hD.bef (i + 1 + k) j e hj) (.inr hck) _ (Nat.le_refl _)]
              exact (tk.wr b' hck).2
            exact (setBox_comm hne p1 p2).symm
      · rw [if_neg e, if_neg e]
  have := high (ops.size - (i + 1)) (by omega)
  rwa [show i + 1 + (ops.size - (i + 1)) = ops.size by omega] at this

theorem Run.all (H : Run C env ops Tr V W c B) {D : Nat → Bool} (hD : ∀ j, j < ops.size → D j = true) : (∀ d, valOf ops Tr V D ops.size d = (Tr ops.size).get d) ∧ memOf Tr c B D ops.size = (Tr ops.size).mem := by
  have : ∀ j, j ≤ ops.size → (∀ d, valOf ops Tr V D j d = (Tr j).get d) ∧ memOf Tr c B D j = (Tr j).mem := by
    intro j
    induction j with
    | zero => intro _; exact ⟨fun _ => rfl, rfl⟩
    | succ j ih =>
      intro hj
      obtain ⟨i1, i2⟩ := ih (by omega)
      refine ⟨fun d => ?_, ?_⟩
      · rw [H.get_step (by omega), valOf, i1, hD j (by omega)]
        simp
      · rw [memOf, if_pos (hD j (by omega)), i2, ← H.mem_step (by omega)]
  exact this _ (Nat.le_refl _)


/-- How many have not come up. -/
def left (n : Nat) (L : Array Bool) : Nat := ((List.range n).filter fun i => !L.getD i true).length

theorem left_set {n i : Nat} {L : Array Bool} (hi : i < n) (hs : L.size = n) (h : L.getD i true = false) : left n (L.setIfInBounds i true) < left n L := by
  unfold left
  have gen : ∀ (l : List Nat), i ∈ l → l.Nodup → (l.filter fun j => !(L.setIfInBounds i true).getD j true).length < (l.filter fun j => !L.getD j true).length := by
    intro l
    induction l with
    | nil => intro h; cases h
    | cons x r ih =>
      intro hm hnd
      rw [List.nodup_cons] at hnd
      have get : ∀ j, (L.setIfInBounds i true).getD j true = if i = j then true else L.getD j true := by
        intro j
        by_cases e : i = j
        · subst e; rw [if_pos rfl]; simp [Array.getD, hs, hi]
        · rw [if_neg e]; exact getD_set_ne true e
      rcases List.mem_cons.1 hm with rfl | hm
      · have same : (r.filter fun j => !(L.setIfInBounds i true).getD j true) = r.filter fun j => !L.getD j true := by
          refine List.filter_congr fun j hj => ?_
          rw [get, if_neg (fun e : i = j => hnd.1 (e ▸ hj))]
        rw [List.filter_cons, List.filter_cons, same, get, if_pos rfl, h]
        simp
      · have hx : i ≠ x := fun e => hnd.1 (e ▸ hm)
        have := ih hm hnd.2
        rw [List.filter_cons, List.filter_cons, get, if_neg hx]
        split
        · rw [List.length_cons, List.length_cons]; omega
        · exact this
  exact gen _ (List.mem_range.2 hi) List.nodup_range

variable {E : Entry C}

theorem any_sound (hP : ProgOK P C) (henv : EnvOK P C env) (H : Run C env ops Tr V W c B) {Q : Exit → Act → World → Prop}
    (hQ : ∀ X' a' w', Sim C E (Tr ops.size) X' a' w' → Q .normal a' w') :
    ∀ (fuel : Nat) (L : Array Bool) (S : AS) (X : Ctx) (a : Act) (w : World), L.size = ops.size → left ops.size L ≤ fuel →
      Shut ops (fun j => L.getD j false = true) → (∀ d, S.get d = valOf ops Tr V (fun j => L.getD j false) ops.size d) → S.mem = memOf Tr c B (fun j => L.getD j false) ops.size →
      S.n = (Tr 0).n → S.dr = true → Sim C E S X a w → wpAny P .any ops Q fuel L a w := by
  have hn : ∀ j, j ≤ ops.size → (Tr j).n = (Tr 0).n := by
    intro j
    induction j with
    | zero => intro _; rfl
    | succ j ih =>
      intro hj
      obtain ⟨o, ho, t⟩ := H.tr j (by omega)
      rw [t.n, ih (by omega)]
  have both : ∀ (L : Array Bool) (i : Nat), i < L.size → (L.getD i true = false ↔ L.getD i false = false) := by
    intro L i hi
    simp [Array.getD, hi]
  -- all have come up
  have fin : ∀ (L : Array Bool) (S : AS) (X : Ctx) (a : Act) (w : World), L.size = ops.size → Region.ready .any ops L = [] →
      Shut ops (fun j => L.getD j false = true) → (∀ d, S.get d = valOf ops Tr V (fun j => L.getD j false) ops.size d) → S.mem = memOf Tr c B (fun j => L.getD j false) ops.size → Sim C E S X a w → Q .normal a w := by
    intro L S X a w hL hr hsh hv hm hs
    have hall : ∀ j, j < ops.size → L.getD j false = true := by
      intro j
      induction j using Nat.strongRecOn with
      | _ j ih =>
        intro hj
        cases hc : L.getD j false with
        | true => rfl
        | false =>
          have ho : ops[j]? = some ops[j] := Array.getElem?_eq_getElem hj
          have : j ∈ Region.ready .any ops L := by
            refine mem_ready.2 ⟨(both L j (by omega)).2 hc, ops[j], ho, fun e he hb => ?_⟩
            have hlt := (drawOk_spec H.ok j _ ho).1 e he hb
            exact ih e.on hlt (by omega)
          rw [hr] at this; cases this
    obtain ⟨a1, a2⟩ := H.all hall
    exact hQ X a w (hs.like (fun d => by rw [hv, a1]) (by rw [hm, a2]))
  intro fuel
  induction fuel with
  | zero =>
    intro L S X a w hL hf hsh hv hm hn0 hdr hs
    have hr : Region.ready .any ops L = [] := by
      have h0 : ((List.range ops.size).filter fun i => !L.getD i true) = [] := List.length_eq_zero_iff.1 (by unfold left at hf; omega)
      unfold Region.ready
      rw [List.filter_eq_nil_iff] at h0 ⊢
      intro i hi
      have := h0 i hi
      simp only [Bool.not_eq_true', Bool.not_eq_false] at this
      simp [this]
    exact ⟨hr, fin L S X a w hL hr hsh hv hm hs⟩
  | succ fuel ih =>
    intro L S X a w hL hf hsh hv hm hn0 hdr hs
    refine ⟨fun hr => fin L S X a w hL hr hsh hv hm hs, fun i hi => ?_⟩
    obtain ⟨hun, o, ho, hall⟩ := mem_ready.1 hi
    have hlt : i < ops.size := by
      rcases Nat.lt_or_ge i ops.size with h | h
      · exact h
      · rw [Array.getElem?_eq_none h] at ho; cases ho
    have hun' := (both L i (by omega)).1 hun
    obtain ⟨o', ho', t⟩ := H.tr i hlt
    rw [ho] at ho'; injection ho' with ho'; subst ho'
    -- what comes before it has come up
    have hbef : ∀ j, bitOf ops i j → L.getD j false = true := by
      intro j hb
      have hat := befRows_at ops.toList [] i o (by simpa using ho)
      unfold bitOf at hb
      rw [List.length_nil, Nat.zero_add] at hat
      rw [hat] at hb
      obtain ⟨e, m, p, q⟩ := befRow_bit hb
      have he := hall e (by simpa using m) p
      rcases q with q | q
      · exact q ▸ he
      · have hl := (drawOk_spec H.ok i o ho).1 e (by simpa using m) p
        rw [List.getD_eq_getElem?_getD, List.getElem?_take, if_pos hl, ← List.getD_eq_getElem?_getD] at q
        exact hsh.bef e.on j he q
    have hread : ∀ d, d ∈ o.looksAt ops → S.get d = (Tr i).get d := fun d hd => by
      rw [hv]; exact H.read hsh hlt ho hun' hbef hd
    have hal : Alike C S (Tr i) o := alike_of_get fun d hd => hread d (looks_operand hd)
    have hL' : (L.setIfInBounds i true).size = ops.size := by simpa using hL
    have hget : ∀ j, (L.setIfInBounds i true).getD j false = addTo (fun j => L.getD j false) i j := by
      intro j
      unfold addTo
      by_cases e : i = j
      · subst e; simp [Array.getD, hL, hlt]
      · rw [getD_set_ne false e]
        have : Nat.beq i j = false := nbeq e
        rw [this, Bool.or_false]
    have hget' : (fun j => (L.setIfInBounds i true).getD j false) = addTo (fun j => L.getD j false) i := funext hget
    have hsh' : Shut ops (fun j => (L.setIfInBounds i true).getD j false = true) := by
      intro j q hj hq e he hb
      rw [hget] at hj ⊢
      unfold addTo at hj ⊢
      rw [Bool.or_eq_true] at hj ⊢
      rcases hj with hj | hj
      · exact .inl (hsh j q hj hq e he hb)
      · have : i = j := by simpa using hj
        subst this
        rw [ho] at hq; injection hq with hq; subst hq
        exact .inl (hall e he hb)
    have hf' : left ops.size (L.setIfInBounds i true) ≤ fuel := by
      have := left_set hlt hL hun; omega
    have hdrT : ∀ j, j < ops.size → (Tr j).dr = true := fun j hj => by
      obtain ⟨oj, _, tj⟩ := H.tr j hj; exact tj.dr
    -- behind it
    have after : ∀ (S1 : AS) (X1 : Ctx) (a1 : Act) (w1 : World), (∀ d, S1.get d = if o.dst = some d then V i else S.get d) → S1.mem = (upd S (c i) (B i) (Tr (i + 1))).mem → S1.n = S.n → S1.dr = true →
        Sim C E S1 X1 a1 w1 → wpAny P .any ops Q fuel (L.setIfInBounds i true) a1 w1 := by
      intro S1 X1 a1 w1 h1 h2 hn1 hd1 h3
      have hm1 : S1.mem = memOf Tr c B (addTo (fun j => L.getD j false) i) ops.size := by
        rw [H.mem_add hsh hlt hun' hbef, h2, ← hm]
        unfold upd
        split <;> rfl
      refine ih _ S1 X1 a1 w1 hL' hf' hsh' ?_ (by rw [hget']; exact hm1) (hn1.trans hn0) hd1 h3
      intro d
      rw [hget', H.val_add hsh hlt ho hun', h1, hv]
    have hdst : ∀ d, o.dst = some d → d < S.n := fun d e => by rw [hn0, ← hn i (by omega)]; exact t.dst d e
    have hwant : Region.wanted o (yielded ops a.tmps) = W i := by
      have g := t.guard
      cases hg : o.guard with
      | none =>
        rw [hg] at g
        unfold Region.wanted; rw [hg]; exact g.symm
      | some p =>
        obtain ⟨j, want⟩ := p
        rw [hg] at g
        obtain ⟨d, g1, ⟨b, tg, g2, g3⟩ | ⟨g2, g3⟩⟩ := g
        · have hb : S.get d = .dat ⟨.bool, b, tg⟩ := by rw [hread d (looks_guard hg g1), g2]
          rw [(guard_wanted hg g1 hb hs).1, g3]
        · have hb : S.get d = .und := by rw [hread d (looks_guard hg g1), g2]
          rw [und_unwanted hg g1 hb hs, g3]
    unfold wpOp
    rw [ho]
    dsimp only
    cases hW : W i with
    | false =>
      rw [if_neg (by rw [hwant, hW]; simp)]
      obtain ⟨o1, o2⟩ := t.off hW
      cases hd : o.dst with
      | none =>
        refine after S X (a.put none undef) w (fun d => ?_) (by rw [o2]; rfl) rfl hdr hs
        rw [hd, if_neg (by simp)]
      | some d =>
        refine after (S.put d .und) X _ w (fun d' => ?_) (by rw [o2]; rfl) rfl hdr (hs.put (hdst d hd) rfl)
        rw [get_put, hd, o1]
        by_cases e : d = d'
        · rw [if_pos e, if_pos (by rw [e])]
        · rw [if_neg e, if_neg (by simpa using e)]
    | true =>
      rw [if_pos (by rw [hwant, hW])]
      refine .inl ?_
      obtain ⟨T', e1, e2, e3⟩ := t.on hW
      -- the operation, from the state at hand
      have hev : ∃ T2, Ev C env S o (V i) T2 ∧ T2.mem = (upd S (c i) (B i) (Tr (i + 1))).mem := by
        have hbox : ∀ b, (c i = .rd b ∨ c i = .wr b) → S.box b = (Tr i).box b := fun b hcb => by
          have := H.box_at hsh hlt hun' hbef hcb (ops.size - i) (by omega)
          rw [show i + (ops.size - i) = ops.size by omega, ← hm] at this
          exact this
        cases hc : c i with
        | quiet => exact ⟨S, e1.alike0 (by rw [← e2]; exact hc) hal hdr t.dr, rfl⟩
        | rd b => exact ⟨S, e1.alikeR (by rw [← e2]; exact hc) hal (hbox b (.inl hc)), rfl⟩
        | wr b => exact ⟨_, e1.alikeW (B := B i) (by rw [← e2]; exact hc) hal (hbox b (.inr hc)) (by rw [← e3]; exact (t.wr b hc).1), rfl⟩
        | all =>
          have hmem : S.mem = (Tr i).mem := by rw [hm]; exact H.memory hsh hlt hun' hbef hc
          refine ⟨_, e1.alike2 hmem hal, ?_⟩
          show T'.mem = (Tr (i + 1)).mem
          rw [e3]
      obtain ⟨T2, v1, v2⟩ := hev
      obtain ⟨k1, k2, k3⟩ := v1.keeps
      obtain ⟨v, S1, q1, q2⟩ := op_sound hP henv v1 hs
      injection q1 with q1
      injection q1 with q1 q1'
      subst q1; subst q1'
      refine Oper.wp_mono (fun a' w' ⟨X', cv, e, h3, h4⟩ => ?_) (q2 Q)
      subst e
      have hTget : ∀ d, S1.get d = S.get d := fun d => by unfold AS.get; rw [k2]
      cases hd : o.dst with
      | none =>
        refine after S1 X' (a.put none cv) w' (fun d => ?_) v2 k1 (k3.trans hdr) h3
        rw [hd, if_neg (by simp)]; exact hTget d
      | some d =>
        refine after (S1.put d (V i)) X' _ w' (fun d' => ?_) v2 k1 (k3.trans hdr) (h3.put (by rw [k1]; exact hdst d hd) h4)
        rw [get_put, hd]
        by_cases e : d = d'
        · rw [if_pos e, if_pos (by rw [e])]
        · rw [if_neg e, if_neg (by simpa using e)]; exact hTget d'

end

section
variable {P : Program} {C : Cfg} {env : Env C} {E : Entry C}

/-- A region. -/
theorem region_sound {Out : Type} (hP : ProgOK P C) (hmix : P.follows .mixedOrders = true) (henv : EnvOK P C env) {id : Nat} {ops : Array Oper} {draw : Bool} {K : AS → Option Out} {r : Out} {S : AS} {X : Ctx} {a : Act} {w : World} {Q : Exit → Act → World → Prop}
    (h : regionC C env ops draw S K = some r) (hs : Sim C E S X a w) (hQ : ∀ S' X' a' w', Sim C E S' X' a' w' → K S' = some r → Q .normal a' w') : (Code.region id ops draw).wp P Q a w := by
  unfold regionC at h
  cases draw with
  | false =>
    simp only [cond_false] at h
    refine wp_region ?_
    have := ops_sound (Q := Q) hP henv ops.toList 0 S X a w (by simp) h hs hQ
    rw [List.range_eq_range']
    simpa using this
  | true =>
    simp only [cond_true] at h
    cases hok : drawOk ops (befRows ops.toList []) <;> rw [hok] at h <;> simp only [cond_true, cond_false] at h
    · cases h
    · obtain ⟨Tr, V, W, c, B, t1, t2, t3⟩ := trace ops.toList 0 [] { S with dr := true } (by simp) h rfl
      have hsz : 0 + ops.toList.length = ops.size := by simp
      rw [hsz] at t2 t3
      have H : Run C env ops Tr V W c B := ⟨hok, fun j hj => (t3 j (Nat.zero_le _) hj).1, fun j j2 h1 h2 h3 => (t3 j (Nat.zero_le _) (by omega)).2.2 j2 h1 h2 h3⟩
      refine wp_region_any hmix (any_sound hP henv H (E := E) (fun X' a' w' s => ?_) ops.size (Array.replicate ops.size false) (Tr 0) X a _ (by simp) ?_ ?_ ?_ ?_ rfl (by rw [t1]) ?_)
      · exact hQ _ X' a' w' (s.setDr false) t2
      · unfold left
        exact Nat.le_trans (List.length_filter_le _ _) (by simp)
      · intro j o hj
        rw [repl_false] at hj; cases hj
      · intro d
        have : ∀ j, valOf ops Tr V (fun j => (Array.replicate ops.size false).getD j false) j d = (Tr 0).get d := by
          intro j
          induction j with
          | zero => rfl
          | succ j ih => rw [valOf, if_neg (by rw [repl_false]; simp), ih]
        rw [this]
      · have : ∀ j, memOf Tr c B (fun j => (Array.replicate ops.size false).getD j false) j = (Tr 0).mem := by
          intro j
          induction j with
          | zero => rfl
          | succ j ih => rw [memOf, if_neg (by rw [repl_false]; simp), ih]
        rw [this]
      · rw [t1]
        exact (hs.setDr true).drawn _

end
end Go.Proofs.YtmgeeanbecmkbaaGreatDoor.Den
