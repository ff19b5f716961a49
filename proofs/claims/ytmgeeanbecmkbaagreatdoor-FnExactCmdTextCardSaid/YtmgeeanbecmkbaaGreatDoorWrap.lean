/- Wrap: the plain wrap for a row that lists variables, the world's shape kept; what stands behind a call that has only laid new blocks. -/
import Derived.HandedShaped
import Derived.ProofKit
import Derived.Carry
namespace Go.Proofs.YtmgeeanbecmkbaaGreatDoor.Den
open Go Go.RowKit Go.Proofs Go.ChangeShapes
set_option linter.unusedVariables false
variable {H : Type} {enc : TypeId × Value → H}

theorem wrap_and_shaped {a : Assume} {C : Checked} {os : Os} {f : FuncId} {fn : Func} {s : ChangeSpec} {conds : List PathCond} {apart fresh handsOn again : Bool} {X : World → Array Value → Prop}
    (hX : ∀ (w w' : World) (args : Array Value), w.heap = w'.heap → X w args → X w' args)
    (own : ownKnob C.prog.godebug = none) (started : os.Started) (noInit : C.prog.inits.idxOf? f = none) (hfn : C.prog.funcs[f]? = some fn)
    (witness : ∃ (w : World) (tape : Tape) (i : Input), w.os = os ∧ (w.forCall tape i).Shaped C.prog ∧ i.vars = [] ∧ Input.okWide C.prog (w.forCall tape i) .any w.heap.size f i ∧
      ((s.pre enc C.prog fn conds apart (w.forCall tape i).memory i.args ∧ X (w.forCall tape i).memory i.args) ∧ sizedMet enc C.prog fn (OpenSpec.ofChange s) apart (w.forCall tape i).memory i.args) ∧ a.holds C.prog (lone (Frame.enter C.prog f i.args .normal) [] (w.forCall tape i)))
    (contract : ∀ (W : World) (base : Nat) (args : Array Value) (ds gs : List (DataW H)) (before : List MemPlace),
      (∀ (j : Nat) t v, fn.params[j]? = some t → args[j]? = some v → Value.okWide C.prog W .any base t v) →
      DataW.Whole enc C.prog fn.params.toList s.vars apart W args.toList ds gs before →
      conds.all (PathCond.test C.prog ⟨fn.params.toList, ds, s.plain.varTypes C.prog, gs⟩) = true →
      (DataW.weightsEach C.prog (fn.params.toList ++ s.plain.varTypes C.prog) (ds ++ gs)).all (· ≤ reachBytes) = true → X W args → W.ShapedOpen C.prog →
      Calls C.prog f args W fun e W' => ∃ v, e = .returned v ∧ s.post enc C.prog fn apart fresh handsOn again W args v W') :
    ReturnsInHanded a C os f .any (fun w args => (s.pre enc C.prog fn conds apart w args ∧ X w args) ∧ sizedMet enc C.prog fn (OpenSpec.ofChange s) apart w args) (s.post enc C.prog fn apart fresh handsOn again) := by
  refine returnsInHanded_of_calls own started noInit witness ?_
  intro w tape i _ hsh _ hok hpre hholds
  obtain ⟨_, _, _, fn', hfn', _, _, _, _, hval⟩ := hok
  have e : fn' = fn := Option.some.inj (hfn'.symm.trans hfn)
  subst e
  obtain ⟨⟨⟨ds, gs, before, hw, hc⟩, hx⟩, hz⟩ := hpre
  have hw' := DataW.Whole.of_heap (w' := w.forCall tape i) (by rfl) hw
  refine (contract (w.forCall tape i) w.heap.size i.args ds gs before hval hw' hc (hz.weights hw) (hX _ _ _ (by rfl) hx) hsh).mono fun e W' ⟨v, he, hp⟩ => ?_
  subst he
  exact ChangeSpec.post_blind hp

/-- A law of one argument that answers true and leaves every old block as it was. -/
theorem post_true {P : Program} {fn : Func} {s : ChangeSpec} {apart fresh : Bool} {W W' : World} {arg : Value} {d : DataW H} {before : List MemPlace} {t b : TypeId}
    (hl : laidOutB P = true) (hr : P.readableRec t = true) (hrow : t < P.types.size) (hp : fn.params = #[t]) (hres : fn.resultTypes = #[b]) (hb : P.underlying b = some .bool) (hvars : s.vars = [])
    (hfn : (s.fn H [d]).results = [.lit (.bool true)] ∧ (s.fn H [d]).args = [d] ∧ (s.fn H [d]).vars = [])
    (hW : DataW.Whole enc P fn.params.toList s.vars apart W [arg] [d] [] before) (hbelow : Below W.heap.size W W') : s.post enc P fn apart fresh false false W #[arg] (.bool true) W' := by
  have hW0 := hW
  obtain ⟨p, q, hA, hV, rfl, _, _⟩ := hW
  rw [hp] at hA
  obtain ⟨p1, q1, h1, h2, rfl⟩ := hA
  have h2 : q1 = [] := h2
  subst h2
  rw [hvars] at hV
  have hV : q = [] := hV
  subst hV
  have hlt : ∀ x ∈ p1, x.block < W.heap.size := fun x hx => by simpa using hW0.lt x (by simp [hx])
  have htrue : ∀ (B : Nat) (sp : Nat → Bool) (hd : Bool), DataW.TrodAll enc P W' B sp hd [b] [.bool true] [.lit (.bool true)] [] := fun B sp hd =>
    ⟨[], [], ⟨1, by show DataW.trod enc P W' B sp hd 1 b [Value.bool true] = _; unfold DataW.trod; rw [hb]⟩, rfl, rfl⟩
  refine ⟨[d], [], _, [], p1, [], hW0, ?_, ?_, ?_, hbelow.frame _, fun h => by cases h⟩
  · show DataW.TrodAll enc P W' _ _ false fn.resultTypes.toList ((Value.bool true).resultList fn.resultTypes.size) (s.fn H [d]).results []
    rw [hres, hfn.1]
    cases fresh <;> exact htrue _ _ _
  · show DataW.TrodAll enc P W' 0 _ true fn.params.toList [arg] (s.fn H [d]).args p1
    rw [hp, hfn.2.1]
    exact ⟨p1, [], Below.trod hl hr hrow h1 hbelow hlt, rfl, by simp⟩
  · show DataW.TrodVars enc P W' _ s.vars (s.fn H [d]).vars []
    rw [hvars, hfn.2.2]
    exact rfl

theorem trod_iface {P : Program} {w : World} {base : Nat} {sp : Nat → Bool} {held : Bool} {fuel : Nat} {t : TypeId} {ms : Array (String × TypeId)} {cs : List Value} {nm : String} {d : DataW H} {p : List MemPlace} (ht : P.underlying t = some (.interface ms)) (h : DataW.trod enc P w base sp held fuel t cs = some (.iface nm d, p)) : ∃ u v, cs = [.iface u v] := by
  cases fuel with
  | zero => simp [DataW.trod] at h
  | succ n =>
    unfold DataW.trod at h
    rw [ht] at h
    split at h <;> simp_all

end Go.Proofs.YtmgeeanbecmkbaaGreatDoor.Den
