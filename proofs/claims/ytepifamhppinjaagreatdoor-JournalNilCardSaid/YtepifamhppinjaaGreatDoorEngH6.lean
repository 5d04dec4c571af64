import Derived.Test.YtepifamhppinjaaGreatDoorEngH5
import Derived.Test.YtepifamhppinjaaGreatDoorEngX3
import Derived.Laws.RangeString
/- The engine: what does more is Go's, whole. -/
namespace Go.Eng

theorem hNext_sound {P : Program} {n : Sz} {fr : Fr} {a : Act} {ρ : Rho} {h : Hp} {w : World} (hs : Sim ρ h w) (hf : FR ρ n fr a) {it : Operand} {s : Bool} {o : O} (hc : hNext n fr h it s = o) (ho : o ≠ .bad) (ty : TypeId) :
    ∃ v h', o = .val v h' ∧ h'.next = h.next ∧ ∃ v' w', (Instr.next (a.eval it) s ty).run P w = .ok v' w' ∧ Ext ρ h w ρ h' w' ∧ VR ρ v v' := by
  unfold hNext at hc
  have hit := ev_VR hf it
  split at hc
  · rename_i id hid
    rw [hid] at hit
    simp only [VR] at hit
    obtain ⟨b, z, hiv, hr⟩ := hit
    cases hoo : h.at id with
    | none => rw [hoo] at hc; exact absurd hc.symm ho
    | arr _ _ => rw [hoo] at hc; exact absurd hc.symm ho
    | ro _ _ => rw [hoo] at hc; exact absurd hc.symm ho
    | map _ _ => rw [hoo] at hc; exact absurd hc.symm ho
    | siter l c p =>
      rw [hoo] at hc
      have h3 := (hs.live id b z hr).2.2
      rw [hoo] at h3
      obtain ⟨st, h1, h2⟩ := h3
      have hbz := (hs.live id b z hr).2.1
      have hsz := h2.size
      by_cases hp : p < l
      · simp only [lt_eq, hp, decide_true, br_true, num_eq] at hc
        obtain ⟨hb, hcA⟩ := br_bad hc ho
        have hpl : p < st.data.toList.length := by rw [h2.1]; exact hp
        have hg := encL_get st.data.toList p hpl
        rw [h2.1] at hg
        have he : encL st.data.toList 0 = c := h2.2
        rw [he] at hg
        have hps : p < st.size := by omega
        have hbyte : (st[p]'hps).toNat = c / 256 ^ (l - (p + 1)) % 256 := by
          rw [hg]; cases st; rfl
        have hnum : Nat.mod (Nat.div c (Nat.pow 256 (Nat.sub l (Nat.succ p)))) 256 = c / 256 ^ (l - (p + 1)) % 256 := rfl
        rw [hnum] at hb hcA
        simp only [decide_eq_true_eq] at hb
        have hdec := decode_ascii st p hps (by rw [hbyte]; exact hb)
        have hown : (h.at id).own = true := by rw [hoo]; rfl
        refine ⟨_, _, hcA.symm, rfl, .tuple #[.bool true, goInt p, .int .i32 (c / 256 ^ (l - (p + 1)) % 256 : Nat)], { w with heap := w.heap.setIfInBounds b (.stringIter st (p + 1)) }, ?_, ?_, ?_⟩
        · simp only [Instr.next, hiv, getObj, setObj, Sem.run_bind, Sem.run, h1, Result.andThen, hps, if_true, hdec, hbyte]
          rfl
        · refine hs.change hr hown _ (by simp) (fun b' hb' => ?_) rfl rfl rfl ⟨st, by simp [hbz], h2⟩
          simp [Array.getElem?_setIfInBounds_ne (Ne.symm hb')]
        · simp only [VR]
          refine ⟨_, rfl, ?_⟩
          simp only [VRs, VR]
          exact ⟨_, _, rfl, rfl, _, _, rfl, rfl, _, _, rfl, rfl, rfl⟩
      · simp only [lt_eq, hp, decide_false, br_false] at hc
        have hps : ¬ p < st.size := by omega
        refine ⟨_, _, hc.symm, rfl, .tuple #[.bool false], w, ?_, Ext.refl hs, ?_⟩
        · simp only [Instr.next, hiv, getObj, Sem.run_bind, Sem.run, h1, Result.andThen, hps, if_false]
          rfl
        · simp only [VR]
          refine ⟨_, rfl, ?_⟩
          simp only [VRs, VR]
          exact ⟨_, _, rfl, rfl, rfl⟩
  · exact absurd hc.symm ho

/-- where the program's variables lie -/
def Glob (ρ : Rho) (G : Nat) : Prop := ∀ g, g < G → ∃ z, ρ g = some (g, z)
theorem Glob.mono {ρ ρ' : Rho} (hle : ρ.le ρ') {G : Nat} (h : Glob ρ G) : Glob ρ' G := fun g hg => (h g hg).imp fun _ => hle _ _

/-- what a call's end says -/
def EndsC (ρ : Rho) (h : Hp) (w : World) : O → Ending → World → Prop
  | .val v h', .returned v', w' => ∃ ρ', Ext ρ h w ρ' h' w' ∧ Fresh ρ' h' ∧ VR ρ' v v'
  | .pan v h', .panicked chain, w' => ∃ ρ' v', chain = [{ v := v', recovered := false }] ∧ Ext ρ h w ρ' h' w' ∧ Fresh ρ' h' ∧ VR ρ' v v'
  | _, _, _ => False
def Plain (P : Program) (f : Nat) : Prop := ∃ fn c, P.funcs[f]? = some fn ∧ (fn.name == "runtime.NumGoroutine") = false ∧ fn.body = some c
def CallOk (P : Program) (G : Nat) (call : Call) : Prop :=
  ∀ f args h, call f args h ≠ .bad → (Plain P f ∧ ∀ ρ w (args' : Array Value), Sim ρ h w → Fresh ρ h → Glob ρ G → VRs ρ args args'.toList → Calls P f args' w (EndsC ρ h w (call f args h))) ∨ ExtAt P f args h (call f args h)

/-- what an operation's end says -/
def OpEnds (P : Program) (ρ : Rho) (h : Hp) (w : World) (a : Act) (o : Oper) (r : O) : Prop :=
  ∀ (next : Act → World → Prop) (Q : Exit → Act → World → Prop),
    (∀ v h' ρ' v' w', r = .val v h' → Ext ρ h w ρ' h' w' → Fresh ρ' h' → VR ρ' v v' → next (a.put o.dst v') w') →
    (∀ v h' ρ' v' w', r = .pan v h' → Ext ρ h w ρ' h' w' → Fresh ρ' h' → VR ρ' v v' → Q (.panic [{ v := v', recovered := false }]) a w') →
    o.wp P a w next Q

theorem undef_VR (ρ : Rho) : VR ρ V.undef undef := by simp only [V.undef, VR]; exact ⟨#[], rfl, by simp [VRs]⟩
theorem run_callFunc' {P : Program} {f : Nat} (h : Plain P f) (args : Array Value) (w : World) : (callFunc f args).run P w = .ok (.enter f args) w := by
  obtain ⟨fn, c, h1, h2, h3⟩ := h
  simp [callFunc, h1, h3]
  simpa using h2

section
variable {E : Env} {G : Nat} {call : Call} {n : Sz} {fr : Fr} {a : Act} {ρ : Rho} {h : Hp} {w : World}
theorem hBuiltin_sound (hs : Sim ρ h w) (hfr : Fresh ρ h) (hf : FR ρ n fr a) {c : Go.Call} {b : Builtin} (hb : c.callee = .builtin b) {r : O} (hc : hBuiltin E h b c.argTypes.toList (evs n fr c.args.toList) = r) (hr : r ≠ .bad) {o : Oper} (ho : o.op = .call c) :
    OpEnds E.P ρ h w a o r := by
  have hargs := evs_VR hf c.args.toList
  unfold hBuiltin at hc
  split at hc
  · rename_i t t2 rest s x ets exs
    rw [exs] at hargs
    simp only [VRs] at hargs
    obtain ⟨s', ys, he, h1, x', _, rfl, h2, rfl⟩ := hargs
    have harr : c.args.map a.eval = #[s', x'] := by apply Array.ext'; rw [Array.toList_map]; exact he
    have ht : c.argTypes[0]? = some t := by rw [← Array.getElem?_toList, ets]; rfl
    have ht2 : c.argTypes[1]? = some t2 := by rw [← Array.getElem?_toList, ets]; rfl
    obtain ⟨isI, hisI, hcA⟩ := oo_val hc hr
    clear hc
    cases isI with
    | true => exact absurd hcA.symm hr
    | false =>
      simp only [br_false] at hcA
      obtain ⟨e, hel, hcB⟩ := oo_val hcA hr
      obtain ⟨es, hes, hcC⟩ := oo_val hcB hr
      obtain ⟨⟨m, l⟩, hsrc, hcD⟩ := oo_val hcC hr
      obtain ⟨i, hi, hisz, _⟩ := szOf_eq hes
      have hp : AppendPre E.P c.argTypes e es i := by
        refine ⟨⟨t, ht, elemOf_eq hel⟩, ?_, hi, hisz⟩
        obtain ⟨d, hd, g⟩ := ob_some hisI
        exact ⟨t2, d, ht2, hd, fun k ek => by subst ek; cases g⟩
      obtain ⟨v, h', hv, ρ', v', w', k1, k2, k3, k4⟩ := appendV_sound hs hfr hp hsrc h1 h2 hcD hr o.type
      intro next Q hval _
      have hrun : (execOp a.eval o).run E.P w = .ok (.value v') w' := by
        simp [execOp, ho, resolve, hb, invoke, builtin, harr, k1]
      rw [Oper.wp, hrun]
      exact hval v h' ρ' v' w' hv k2 k3 k4
  · rename_i t rest d x ets exs
    rw [exs] at hargs
    simp only [VRs] at hargs
    obtain ⟨s', ys, he, h1, x', _, rfl, h2, rfl⟩ := hargs
    have harr : c.args.map a.eval = #[s', x'] := by apply Array.ext'; rw [Array.toList_map]; exact he
    have ht : c.argTypes[0]? = some t := by rw [← Array.getElem?_toList, ets]; rfl
    obtain ⟨e, hel, hcB⟩ := oo_val hc hr
    obtain ⟨es, hes, hcC⟩ := oo_val hcB hr
    obtain ⟨v, h', hv, hn, v', w', k1, k2, k3⟩ := copyV_sound hs ht (elemOf_eq hel) hes h1 h2 hcC hr o.type
    intro next Q hval _
    have hrun : (execOp a.eval o).run E.P w = .ok (.value v') w' := by
      simp [execOp, ho, resolve, hb, invoke, builtin, harr, k1]
    rw [Oper.wp, hrun]
    exact hval v h' ρ v' w' hv k2 (hfr.of_next hn) k3
  · exact absurd hc.symm hr

theorem callV_sound (hcall : CallOk E.P G call) (hG : n.g = G) (hs : Sim ρ h w) (hfr : Fresh ρ h) (hf : FR ρ n fr a) {c : Go.Call} {g : Operand} (hb : c.callee = .value g) {r : O} (hc : callV call h (ev n fr g) (evs n fr c.args.toList) = r) (hr : r ≠ .bad) {o : Oper} (ho : o.op = .call c) :
    OpEnds E.P ρ h w a o r := by
  have hargs := evs_VR hf c.args.toList
  have hg := ev_VR hf g
  unfold callV at hc
  split at hc
  · rename_i f first cap hfn
    rw [hfn] at hg
    simp only [VR] at hg
    obtain ⟨a', b', hgv, h1, h2⟩ := hg
    simp only [app_eq] at hc
    rcases hcall f _ h (by rw [hc]; exact hr) with ⟨hpl, hk⟩ | ⟨v, hv, hx⟩
    case inr =>
      obtain ⟨v', q1, q2⟩ := hx ρ (a' ++ c.args.map a.eval ++ b') w (by
        rw [Array.toList_append, Array.toList_append, Array.toList_map, List.append_assoc]
        exact h1.append (hargs.append h2))
      intro next Q hval _
      have hrun : (execOp a.eval o).run E.P w = .ok (.value v') w := by
        simp [execOp, ho, resolve, hb, invoke, hgv, Deferred.ofValue] at q1 ⊢
        exact q1
      rw [Oper.wp, hrun]
      exact hval v h ρ v' w (hc.symm.trans hv) (Ext.refl hs) hfr q2
    have hglob : Glob ρ G := fun g hg => hf.glob g (by rw [hG]; exact hg)
    have := hk ρ w (a' ++ c.args.map a.eval ++ b') hs hfr hglob (by
      rw [Array.toList_append, Array.toList_append, Array.toList_map, List.append_assoc]
      exact h1.append (hargs.append h2))
    rw [hc] at this
    intro next Q hval hpan
    have hrun : (execOp a.eval o).run E.P w = .ok (.enter f (a' ++ c.args.map a.eval ++ b')) w := by
      simp [execOp, ho, resolve, hb, invoke, hgv, Deferred.ofValue, run_callFunc' hpl]
    rw [Oper.wp, hrun, Oper.upon_enter]
    refine Calls.mono this fun e w' he => ?_
    cases r with
    | bad => exact absurd rfl hr
    | val v h' =>
      cases e with
      | returned v' => obtain ⟨ρ', q1, q2, q3⟩ := he; exact hval v h' ρ' v' w' rfl q1 q2 q3
      | panicked _ => exact he.elim
      | outgrown => exact he.elim
    | pan v h' =>
      cases e with
      | returned v' => exact he.elim
      | panicked chain => obtain ⟨ρ', v', rfl, q1, q2, q3⟩ := he; exact hpan v h' ρ' v' w' rfl q1 q2 q3
      | outgrown => exact he.elim
  · exact absurd hc.symm hr

theorem hdOp_sound (hcall : CallOk E.P G call) (hG : n.g = G) (hs : Sim ρ h w) (hfr : Fresh ρ h) (hf : FR ρ n fr a) (o : Oper) {r : O} (hc : hdOp E call n fr h o.op = r) (hr : r ≠ .bad) :
    OpEnds E.P ρ h w a o r := by
  cases ho : o.op <;> rw [ho] at hc <;> simp only [hdOp] at hc <;> first | (exact absurd hc.symm hr) | skip
  case store t x v =>
    obtain ⟨h', hst, hcA⟩ := oo_val hc hr
    obtain ⟨w', k1, k2, k3⟩ := storeV_sound hs hst (ev_VR hf x) (ev_VR hf v)
    intro next Q hval _
    have hrun : (execOp a.eval o).run E.P w = .ok .skip w' := by simp [execOp, ho, k1]
    rw [Oper.wp, hrun, Oper.upon_skip]
    exact hval V.undef h' ρ undef w' hcA.symm k2 (hfr.of_next k3) (undef_VR ρ)
  case mapUpdate t m k x =>
    obtain ⟨h', hv, hn, w', k1, k2⟩ := hUpdate_sound hs hf hc hr
    intro next Q hval _
    have hrun : (execOp a.eval o).run E.P w = .ok .skip w' := by simp [execOp, ho, k1]
    rw [Oper.wp, hrun, Oper.upon_skip]
    exact hval V.undef h' ρ undef w' hv k2 (hfr.of_next hn) (undef_VR ρ)
  case insert t m k x =>
    obtain ⟨h', hv, hn, w', k1, k2⟩ := hUpdate_sound hs hf hc hr
    intro next Q hval _
    have hrun : (execOp a.eval o).run E.P w = .ok .skip w' := by simp [execOp, ho, k1]
    rw [Oper.wp, hrun, Oper.upon_skip]
    exact hval V.undef h' ρ undef w' hv k2 (hfr.of_next hn) (undef_VR ρ)
  case next it s =>
    obtain ⟨v, h', hv, hn, v', w', k1, k2, k3⟩ := hNext_sound (P := E.P) hs hf hc hr o.type
    intro next Q hval _
    have hrun : (execOp a.eval o).run E.P w = .ok (.value v') w' := by simp only [execOp, ho, Sem.run_bind, k1, Result.andThen_ok, Sem.run_pure]
    rw [Oper.wp, hrun]
    exact hval v h' ρ v' w' hv k2 (hfr.of_next hn) k3
  case call c =>
    split at hc
    · rename_i g hg; exact callV_sound hcall hG hs hfr hf hg hc hr ho
    · rename_i b hb; exact hBuiltin_sound hs hfr hf hb hc hr ho
    · exact absurd hc.symm hr

theorem xOp_sound (hcall : CallOk E.P G call) (hG : n.g = G) (hs : Sim ρ h w) (hfr : Fresh ρ h) (hf : FR ρ n fr a) (o : Oper) {r : O} (hc : xOp E call n o.op fr h = r) (hr : r ≠ .bad) :
    OpEnds E.P ρ h w a o r := by
  unfold xOp at hc
  cases hcls : cls E.P o.op with
  | zero =>
    rw [hcls] at hc
    obtain ⟨v, hv, hcA⟩ := oo_val hc hr
    obtain ⟨v', k1, k2⟩ := rdOp_sound hs hf o hv
    intro next Q hval _
    rw [Oper.wp, k1]
    exact hval v h ρ v' w hcA.symm (Ext.refl hs) hfr k2
  | succ m =>
    rw [hcls] at hc
    cases m with
    | zero =>
      obtain ⟨⟨obj, k⟩, hal, hcA⟩ := oo_val hc hr
      obtain ⟨hid, hcB⟩ := Hp.new_val (hcA ▸ hr)
      rw [hcA] at hcB
      obtain ⟨v', c, z, d, k1, k2⟩ := alOp_sound hf o hal w
      have hf0 := hfr h.next (Nat.le_refl _)
      obtain ⟨q1, q2⟩ := k2 h.next hf0
      intro next Q hval _
      rw [Oper.wp, k1]
      have hx := hs.alloc hid (Nat.le_refl _) hf0 obj c z q1 (h.next + 1) (Nat.le_succ _)
      exact hval _ _ _ v' _ hcB (hx.trans (Ext.drew hx.sim d)) (hfr.set _ _) q2
    | succ m => exact hdOp_sound hcall hG hs hfr hf o hc hr
end
end Go.Eng
