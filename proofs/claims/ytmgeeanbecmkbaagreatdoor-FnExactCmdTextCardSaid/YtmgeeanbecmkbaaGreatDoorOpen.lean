/- Open: what an argument reads is plain data: values, texts, structs and slices. -/
import Derived.Test.YtmgeeanbecmkbaaGreatDoorDenH
import Derived.Handed
import Derived.ChangeArms
namespace Go.Proofs.YtmgeeanbecmkbaaGreatDoor.Den
open Go Go.Proofs
set_option linter.unusedVariables false

/-- All that stands in memory. -/
def oldR (w : World) (g : Nat) (_ : Nat) : Prop := g < w.heap.size
/-- Texts and slices that are no longer than so much. -/
def Lim (B : Nat) : (t : Ty) → t.D → Prop
  | .str, s => s.length ≤ B
  | .pair a b, x => Lim B a x.1 ∧ Lim B b x.2
  | .slice _ t, xs => xs.length ≤ B ∧ ∀ y ∈ xs, Lim B t y
  | _, _ => True
def plainT : Ty → Bool
  | .err => false
  | .ptr => false
  | .pair a b => plainT a && plainT b
  | .slice _ t => plainT t
  | _ => true

section
variable {H : Type} {enc : TypeId × Value → H} {P : Program} {C : Cfg} {w : World} {B : Nat}

theorem cellsOf_ty (hC : CfgOK P C) {T : TypeId} {t : Ty} (h : C.ty T = some t) : P.cellsOf T = t.size := by
  obtain ⟨i, h1, h2, _⟩ := (hC _ _ h).info
  unfold Program.cellsOf
  rw [h1]; exact h2

def MainP (enc : TypeId × Value → H) (P : Program) (C : Cfg) (w : World) (B : Nat) (t : Ty) : Prop := ∀ (T : TypeId) (fuel : Nat) (cs : List Value) (x : DataW H × List MemPlace), C.ty T = some t → plainT t = true → DataW.trod enc P w 0 (fun _ => true) true fuel T cs = some x → (∀ n ∈ x.1.weights P T, n ≤ B) →
    ∃ y : t.D, Reads (oldR w) w t y cs ∧ Lim B t y
def FieldsP (enc : TypeId × Value → H) (P : Program) (C : Cfg) (w : World) (B : Nat) (t : Ty) : Prop := ∀ (fs : List Field) (o fuel : Nat) (cs : List Value) (xs : List (DataW H × List MemPlace)), FieldsOK C fs t o → plainT t = true → xs.length = fs.length → (∀ (i : Nat) (f : Field), fs[i]? = some f → DataW.trod enc P w 0 (fun _ => true) true fuel f.type ((cs.drop f.offset).take (P.cellsOf f.type)) = xs[i]?) →
    cs.length = o + t.size → (∀ n ∈ DataW.weightsEach P (fs.map (·.type)) (xs.map (·.1)), n ≤ B) → ∃ y : t.D, Reads (oldR w) w t y (cs.drop o) ∧ Lim B t y

theorem mapM_range_some {α : Type} {f : Nat → Option α} {n : Nat} {l : List α} (h : (List.range n).mapM f = some l) : ∀ i, i < n → ∃ y, l[i]? = some y ∧ f i = some y := by
  intro i hi
  have := mapM_some_get h i i (by simp [hi])
  have hl : l.length = n := by simpa using mapM_some_length h
  exact ⟨l[i], List.getElem?_eq_getElem (by omega), by rw [this]; exact List.getElem?_eq_getElem (by omega)⟩

/-- Cells of a row that is read. -/
theorem cells_row {a : Addr} {n : Nat} {cs : List Value} (h : w.cells? 0 a n = some cs) : cs.length = n ∧ ∀ j u, cs[j]? = some u → w.cell? (a.add j) = some u := by
  unfold World.cells? at h
  rw [if_pos (Nat.zero_le _)] at h
  have hl : cs.length = n := by simpa using mapM_some_length h
  refine ⟨hl, fun j u hu => ?_⟩
  have hj : j < n := by
    rcases Nat.lt_or_ge j cs.length with h' | h'
    · omega
    · rw [List.getElem?_eq_none h'] at hu; cases hu
  have := mapM_some_get h j j (by simp [hj])
  rw [this, hu]
theorem cell_lt {g o : Nat} {u : Value} (h : w.cell? ⟨g, o, none⟩ = some u) : g < w.heap.size := World.block_lt_of_cell? w ⟨g, o, none⟩ h
theorem cell_spot {a : Addr} {u : Value} (h : w.cell? a = some u) : a.spot = none := by
  unfold World.cell? at h
  split at h
  · cases hs : a.spot with
    | none => rfl
    | some s => rw [hs] at h; simp at h
  · cases h

theorem open_all (hC : CfgOK P C) (hB : ∀ e u, C.ty e = some u → 1 ≤ P.bytesOf e) (t : Ty) : MainP enc P C w B t ∧ FieldsP enc P C w B t := by
  induction t with
  | int k =>
    refine ⟨fun T fuel cs x hT _ h _ => ?_, fun fs o fuel cs xs hf => by cases fs <;> exact hf.elim⟩
    obtain ⟨n, rfl, _, _⟩ := DataW.trod_int (hC _ _ hT).desc h
    exact ⟨n, rfl, trivial⟩
  | bool =>
    refine ⟨fun T fuel cs x hT _ h _ => ?_, fun fs o fuel cs xs hf => by cases fs <;> exact hf.elim⟩
    obtain ⟨b, rfl, _⟩ := DataW.trod_bool (hC _ _ hT).desc h
    exact ⟨b, rfl, trivial⟩
  | str =>
    refine ⟨fun T fuel cs x hT _ h hw => ?_, fun fs o fuel cs xs hf => by cases fs <;> exact hf.elim⟩
    obtain ⟨s, rfl, rfl, _⟩ := DataW.trod_string (hC _ _ hT).desc h
    exact ⟨s.data.toList, by show _ = [Value.string ⟨s.data.toList.toArray⟩]; simp, hw s.data.toList.length (by simp [DataW.weights])⟩
  | err => exact ⟨fun T fuel cs x hT hp _ _ => (by cases hp), fun fs o fuel cs xs hf _ _ _ _ _ => (by cases fs <;> exact hf.elim)⟩
  | ptr => exact ⟨fun T fuel cs x hT hp _ _ => (by cases hp), fun fs o fuel cs xs hf _ _ _ _ _ => (by cases fs <;> exact hf.elim)⟩
  | unit =>
    refine ⟨fun T fuel cs x hT hp h hw => ?_, fun fs o fuel cs xs hf hp hl ht hc hw => ?_⟩
    · obtain ⟨fs, h1, h2⟩ := (hC _ _ hT).desc
      obtain ⟨xs, n, _, _, hl, _⟩ := DataW.trod_struct h1 h
      rw [cellsOf_ty hC hT] at hl
      have : cs = [] := List.eq_nil_of_length_eq_zero hl
      subst this
      exact ⟨(), rfl, trivial⟩
    · refine ⟨(), ?_, trivial⟩
      show cs.drop o = []
      exact List.drop_eq_nil_of_le (by rw [hc]; exact Nat.le_refl _)
  | pair a b iha ihb =>
    have fields : FieldsP enc P C w B (.pair a b) := by
      intro fs o fuel cs xs hf hp hl ht hc hw
      cases fs with
      | nil => exact hf.elim
      | cons f fs =>
        obtain ⟨rfl, h2, _, h4, h5⟩ := hf
        cases xs with
        | nil => cases hl
        | cons x xs =>
          have hpp : plainT a = true ∧ plainT b = true := by unfold plainT at hp; rwa [Bool.and_eq_true] at hp
          have hsz : Ty.size (.pair a b) = a.size + b.size := rfl
          rw [hsz] at hc
          have h0 := ht 0 f rfl
          rw [cellsOf_ty hC h2] at h0
          obtain ⟨y1, r1, l1⟩ := iha.1 f.type fuel _ x h2 hpp.1 h0 fun n hn => hw n (by simp only [List.map_cons, DataW.weightsEach, List.mem_append]; exact .inl hn)
          obtain ⟨y2, r2, l2⟩ := ihb.2 fs (f.offset + a.size) fuel cs xs h5 hpp.2 (by simpa using hl) (fun i g hg => ht (i + 1) g hg) (by omega) fun n hn => hw n (by simp only [List.map_cons, DataW.weightsEach, List.mem_append]; exact .inr hn)
          refine ⟨(y1, y2), ⟨_, _, ?_, r1, r2⟩, l1, l2⟩
          rw [← List.drop_drop, List.take_append_drop]
    refine ⟨fun T fuel cs x hT hp h hw => ?_, fields⟩
    obtain ⟨fs, h1, h2⟩ := (hC _ _ hT).desc
    obtain ⟨xs, n, _, rfl, hl, hxl, hx⟩ := DataW.trod_struct h1 h
    rw [cellsOf_ty hC hT] at hl
    have := fields fs.toList 0 n cs xs h2 hp (by simpa using hxl) (fun i f hf => hx i f (by simpa using hf)) (by omega) (fun m hm => hw m (by simp only [DataW.weights, h1]; exact hm))
    rw [List.drop_zero] at this
    exact this
  | slice e u ih =>
    refine ⟨fun T fuel cs x hT hp h hw => ?_, fun fs o fuel cs xs hf => by cases fs <;> exact hf.elim⟩
    obtain ⟨h1, h2, h3⟩ := (hC _ _ hT).desc
    rcases DataW.trod_slice h1 h with ⟨rfl, rfl⟩ | ⟨a, len, cap, elems, rest, n, _, rfl, rfl, _, hlc, _, hel, hat, _⟩
    · exact ⟨[], ⟨none, 0, rfl, Nat.le_refl _, fun i hi => absurd hi (Nat.not_lt_zero _)⟩, Nat.zero_le _, fun y hy => by cases hy⟩
    · have hpu : plainT u = true := hp
      have hcu := cellsOf_ty hC h2
      have hb1 := hB e u h2
      have hwl : len ≤ B := by
        have := hw ((elems.map (·.1)).length + (rest.map (·.1)).length |> (· * P.bytesOf e)) (by simp only [DataW.weights, h1]; exact List.mem_cons_self ..)
        simp only [List.length_map, hel] at this
        have h2 := Nat.le_mul_of_pos_right (len + rest.length) hb1
        omega
      -- each element
      have each : ∀ i, i < len → ∃ (y : u.D) (c2 : List Value), Reads (oldR w) w u y c2 ∧ Lim B u y ∧ c2.length = u.size ∧ ∀ j v, c2[j]? = some v → w.cell? ((a.add (i * u.size)).add j) = some v := by
        intro i hi
        have hi' : i < elems.length := by omega
        have := hat i hi
        rw [hcu, List.getElem?_eq_getElem hi', Option.bind_eq_some_iff] at this
        obtain ⟨c2, k1, k2⟩ := this
        obtain ⟨k3, k4⟩ := cells_row k1
        obtain ⟨y, r, l⟩ := ih.1 e n c2 elems[i] h2 hpu k2 fun m hm => hw m (by
          simp only [DataW.weights, h1]
          refine List.mem_cons_of_mem _ (List.mem_append_left _ ?_)
          have key : ∀ (l : List (DataW H × List MemPlace)) (z : DataW H × List MemPlace), z ∈ l → ∀ m ∈ z.1.weights P e, m ∈ DataW.weightsAll P e (l.map (·.1)) := by
            intro l
            induction l with
            | nil => intro z hz; cases hz
            | cons q l ihl =>
              intro z hz m hm
              simp only [List.map_cons, DataW.weightsAll, List.mem_append]
              rcases List.mem_cons.1 hz with rfl | hz
              · exact .inl hm
              · exact .inr (ihl z hz m hm)
          exact key elems elems[i] (List.getElem_mem hi') m hm)
        exact ⟨y, c2, r, l, k3, k4⟩
      -- all of them
      have all : ∀ k, k ≤ len → ∃ ys : List u.D, ys.length = k ∧ (∀ y ∈ ys, Lim B u y) ∧ ∀ i (h : i < ys.length), ∃ c2 : List Value, Reads (oldR w) w u ys[i] c2 ∧ c2.length = u.size ∧ ∀ j v, c2[j]? = some v → w.cell? ((a.add (i * u.size)).add j) = some v := by
        intro k
        induction k with
        | zero => intro _; exact ⟨[], rfl, fun y hy => (by cases hy), fun i h => absurd h (Nat.not_lt_zero _)⟩
        | succ k ihk =>
          intro hk
          obtain ⟨ys, q1, q2, q3⟩ := ihk (by omega)
          obtain ⟨y, c2, r1, r2, r3, r4⟩ := each k (by omega)
          refine ⟨ys ++ [y], by simp [q1], fun z hz => ?_, fun i h => ?_⟩
          · rcases List.mem_append.1 hz with hz | hz
            · exact q2 z hz
            · rw [List.mem_singleton.1 hz]; exact r2
          · rcases Nat.lt_or_ge i ys.length with hi | hi
            · obtain ⟨c3, s1, s2, s3⟩ := q3 i hi
              exact ⟨c3, by rw [List.getElem_append_left hi]; exact s1, s2, s3⟩
            · have : i = k := by simp at h; omega
              subst this
              refine ⟨c2, ?_, r3, r4⟩
              have : (ys ++ [y])[i] = y := by
                rw [List.getElem_append_right hi]
                simp
              rw [this]; exact r1
      obtain ⟨ys, q1, q2, q3⟩ := all len (Nat.le_refl _)
      refine ⟨ys, ⟨some a, cap, by rw [q1], by rw [q1]; exact hlc, fun i hi => ?_⟩, by rw [q1]; exact hwl, q2⟩
      obtain ⟨c2, s1, s2, s3⟩ := q3 i hi
      -- where the row lies
      have hspot : a.spot = none := by
        obtain ⟨c3, _, t2, t3⟩ := q3 0 (by omega)
        have h0 : 0 < c3.length := by rw [t2]; exact h3
        have := cell_spot (t3 0 c3[0] (List.getElem?_eq_getElem h0))
        have e1 : (a.add (0 * u.size)).add 0 = a := by rw [Nat.zero_mul]; rfl
        rw [e1] at this; exact this
      obtain ⟨g, o, sp⟩ := a
      simp only at hspot
      subst hspot
      refine ⟨g, o, c2, rfl, s1, fun j v hv => ?_⟩
      have := s3 j v hv
      rw [add_eq, add_eq] at this
      have e2 : o + (i * u.size + j) = o + i * u.size + j := by omega
      rw [e2]
      exact ⟨this, cell_lt this⟩

/-- What an argument reads, opened. -/
theorem open_arg (hC : CfgOK P C) (hB : ∀ e u, C.ty e = some u → 1 ≤ P.bytesOf e) {T : TypeId} {t : Ty} {v : Value} {d : DataW H} {ps : List MemPlace} (hT : C.ty T = some t) (hp : plainT t = true) (h : DataW.Trod enc P w 0 (fun _ => true) true T v d ps) (hw : ∀ n ∈ d.weights P T, n ≤ B) :
    ∃ y : t.D, Reads (oldR w) w t y v.cells.toList ∧ Lim B t y := by
  obtain ⟨fuel, h⟩ := h
  exact (open_all hC hB t).1 T fuel _ _ hT hp h hw

end
end Go.Proofs.YtmgeeanbecmkbaaGreatDoor.Den
