import Derived.Test.YtepifamhppinjaaGreatDoorEngQ11
/- The engine: calls are Go's. -/
namespace Go.Eng

theorem afterHas_eq : ∀ (es : List Edge) (i : Nat), afterHas es i = true → ∃ e ∈ es, Region.binds .any e = true ∧ e.on = i
  | [], _, h => by cases h
  | e :: es, i, h => by
    have h : br (and (Nat.beq e.on i) (Region.binds .any e)) true (afterHas es i) = true := h
    cases hb : (and (Nat.beq e.on i) (Region.binds .any e)) with
    | true =>
      simp only [Bool.and_eq_true, beq_eq', decide_eq_true_eq] at hb
      exact ⟨e, List.mem_cons_self .., hb.2, hb.1⟩
    | false =>
      rw [hb] at h
      obtain ⟨e', h1, h2⟩ := afterHas_eq es i h
      exact ⟨e', List.mem_cons_of_mem _ h1, h2⟩
theorem bondsBack_eq : ∀ (es : List Edge) (i : Nat), bondsBack es i = true → ∀ e ∈ es, Region.binds .any e = true → e.on < i
  | [], _, _, _, h, _ => by cases h
  | e :: es, i, h, e', he, hb => by
    have h : br (br (Region.binds .any e) (lt e.on i) true) (bondsBack es i) false = true := h
    cases h1 : br (Region.binds .any e) (lt e.on i) true with
    | false => rw [h1] at h; cases h
    | true =>
      rw [h1] at h
      rcases List.mem_cons.1 he with rfl | he
      · rw [hb] at h1
        have h1 : lt e'.on i = true := h1
        simpa [lt_eq] using h1
      · exact bondsBack_eq es i h e' he hb
theorem behindOk_eq (ops : Array Oper) (o : Oper) (i : Nat) : ∀ l : List Oper, behindOk ops o i l = true → ∀ p ∈ l, (∃ e ∈ p.after, Region.binds .any e = true ∧ e.on = i) ∨ o.apart ops p = true
  | [], _, _, h => by cases h
  | q :: l, h, p, hp => by
    have h : br (br (afterHas q.after.toList i) true (o.apart ops q)) (behindOk ops o i l) false = true := h
    cases h1 : br (afterHas q.after.toList i) true (o.apart ops q) with
    | false => rw [h1] at h; cases h
    | true =>
      rw [h1] at h
      rcases List.mem_cons.1 hp with rfl | hp
      · cases h2 : afterHas p.after.toList i with
        | true => obtain ⟨e, k1, k2⟩ := afterHas_eq _ _ h2; exact .inl ⟨e, by simpa using k1, k2⟩
        | false => rw [h2] at h1; exact .inr h1
      · exact behindOk_eq ops o i l h p hp
theorem orderOk_eq (P : Program) (ops : Array Oper) : ∀ (l : List Oper) (k : Nat), orderOk P ops l k = true →
    (∀ i o, l[i]? = some o → cls P o.op = 0 ∧ (∀ cs b, o.op ≠ .select cs b) ∧ (∀ e ∈ o.after, Region.binds .any e = true → e.on < k + i)) ∧
    (∀ i j oi oj, i < j → l[i]? = some oi → l[j]? = some oj → (∃ e ∈ oj.after, Region.binds .any e = true ∧ e.on = k + i) ∨ oi.apart ops oj = true)
  | [], _, _ => ⟨fun _ _ h => (by cases h), fun _ _ _ _ _ h => (by cases h)⟩
  | o :: l, k, h => by
    have h : br (and (and (Nat.beq (cls P o.op) 0) (noSel o.op)) (and (bondsBack o.after.toList k) (behindOk ops o k l))) (orderOk P ops l (k + 1)) false = true := h
    cases hb : (and (and (Nat.beq (cls P o.op) 0) (noSel o.op)) (and (bondsBack o.after.toList k) (behindOk ops o k l))) with
    | false => rw [hb] at h; cases h
    | true =>
      rw [hb] at h
      obtain ⟨k1, k2⟩ := orderOk_eq P ops l (k + 1) h
      simp only [Bool.and_eq_true, beq_eq', decide_eq_true_eq] at hb
      obtain ⟨⟨b1, b2⟩, b3, b4⟩ := hb
      refine ⟨fun i p hp => ?_, fun i j oi oj hij hi hj => ?_⟩
      · cases i with
        | zero =>
          have hp : o = p := by simpa using hp
          subst hp
          refine ⟨b1, ?_, fun e he hb => bondsBack_eq _ _ b3 e (by simpa using he) hb⟩
          intro cs b e; rw [e] at b2; cases b2
        | succ i =>
          have := k1 i p (by simpa using hp)
          exact ⟨this.1, this.2.1, fun e he hb => by have := this.2.2 e he hb; omega⟩
      · cases j with
        | zero => omega
        | succ j =>
          cases i with
          | zero =>
            have hi : o = oi := by simpa using hi
            subst hi
            exact behindOk_eq ops o k l b4 oj (List.mem_of_getElem? (by simpa using hj))
          | succ i =>
            have := k2 i j oi oj (by omega) (by simpa using hi) (by simpa using hj)
            rwa [show k + 1 + i = k + (i + 1) by omega] at this

structure EnvOk (E : Env) (G : Nat) : Prop where
  tbl : ∀ f fn, E.tbl f = some fn → E.P.funcs[f]? = some fn ∧ (fn.name == "runtime.NumGoroutine") = false
  order : E.P.follows .mixedOrders = true
  nat : ∀ f g, E.nat f = some g → ExtOk E.P f g

section
variable {E : Env} {G : Nat} {call : Call} {n : Sz}
theorem region_sound (hE : EnvOk E G) (hcall : CallOk E.P G call) (hG : n.g = G) (id : Nat) (ops : Array Oper) (draw : Bool) : Sound E.P n (regionE E call n ops draw) (.region id ops draw) := by
  intro ρ fr h a w hs hfr hf hb
  have hsz : ops.toList.length = ops.size := by simp
  cases draw with
  | false =>
    have := runL_sound hcall hG ops ops.toList 0 (fun i hi => by simp) ρ fr h a w hs hfr hf hb
    rw [hsz, ← List.range_eq_range'] at this
    exact wp_region this
  | true =>
    have hb : br (orderOk E.P ops ops.toList 0) (runL E call n ops.toList ops.toList) (@Option.rec Plan (fun _ => Fr → Hp → R) (fun _ _ => .bad) (fun p => regionD E call n ops p) (planOf E.P ops)) fr h ≠ .bad := hb
    cases ho : orderOk E.P ops ops.toList 0 with
    | false =>
      cases hp : planOf E.P ops with
      | none => rw [ho, hp] at hb; exact absurd rfl hb
      | some p =>
        have e : regionE E call n ops true = regionD E call n ops p := by
          show br (orderOk E.P ops ops.toList 0) _ (@Option.rec Plan (fun _ => Fr → Hp → R) (fun _ _ => .bad) (fun p => regionD E call n ops p) (planOf E.P ops)) = _
          rw [ho, hp]; rfl
        rw [ho, hp] at hb
        rw [e]
        exact regionD_sound hE.order hcall hG id hp ρ fr h a w hs hfr hf hb
    | true =>
      rw [ho] at hb
      have hb : runL E call n ops.toList ops.toList fr h ≠ .bad := hb
      have hr : regionE E call n ops true fr h = runL E call n ops.toList ops.toList fr h := by
        show br (orderOk E.P ops ops.toList 0) (runL E call n ops.toList ops.toList) (@Option.rec Plan (fun _ => Fr → Hp → R) (fun _ _ => .bad) (fun p => regionD E call n ops p) (planOf E.P ops)) fr h = _
        rw [ho]; rfl
      rw [hr]
      obtain ⟨k1, k2⟩ := orderOk_eq E.P ops ops.toList 0 ho
      have hd := hs.drew (w.drawn + 1)
      obtain ⟨fr', a', q1, q2, q3⟩ := runL_reads (E := E) (call := call) (n := n) hd ops ops.toList 0 (fun i hi => by simp) (fun o ho => by
        obtain ⟨i, hi⟩ := List.getElem?_of_mem ho
        exact (k1 i o hi).1) fr a hf hb
      rw [hsz] at q2
      refine wp_region_any hE.order (wpAny_reads (w := { w with drawn := w.drawn + 1 }) ⟨?_, ?_, ?_⟩ ops.size _ (List.range' 0 ops.size) a a' (by simp) (by simp) List.pairwise_lt_range' ?_ q2 ?_)
      · exact fun j o cs b hj => (k1 j o (by simpa using hj)).2.1 cs b
      · exact fun i o hi e he hb => by have := (k1 i o (by simpa using hi)).2.2 e he hb; omega
      · exact fun i j oi oj hij hi hj => by
          have := k2 i j oi oj hij (by simpa using hi) (by simpa using hj)
          simpa using this
      · intro i
        simp [Array.getElem?_replicate]
        intro h; simp [h]
      · rw [q1]; exact ⟨ρ, Ext.drew hs _, hfr, q3⟩

theorem exec_sound (hE : EnvOk E G) (hcall : CallOk E.P G call) (hG : n.g = G) : ∀ c : Code, Sound E.P n (exec E call n c) c
  | .skip => fun ρ _fr _h _a _w hs hfr hf _ => wp_skip ⟨ρ, Ext.refl hs, hfr, hf⟩
  | .region id ops draw => region_sound hE hcall hG id ops draw
  | .seq c d => (exec_sound hE hcall hG c).seq (exec_sound hE hcall hG d)
  | .cond _x c d => (exec_sound hE hcall hG c).cond (exec_sound hE hcall hG d)
  | .block id c => (exec_sound hE hcall hG c).block id
  | .loop c => (exec_sound hE hcall hG c).loop levels
  | .rangeFunc _ _ _ _ => fun _ _ _ _ _ _ _ _ hb => absurd rfl hb
  | .exit _id => fun ρ _fr _h _a _w hs hfr hf _ => wp_exit ⟨rfl, ρ, Ext.refl hs, hfr, hf⟩
  | .scope _ => fun _ _ _ _ _ _ _ _ hb => absurd rfl hb
  | .label _ => fun ρ _fr _h _a _w hs hfr hf _ => wp_label ⟨ρ, Ext.refl hs, hfr, hf⟩
  | .goto _ => fun _ _ _ _ _ _ _ _ hb => absurd rfl hb
  | .ret => fun ρ _fr _h _a _w hs hfr hf _ => wp_ret ⟨ρ, Ext.refl hs, hfr, hf⟩
  | .refuse _ => fun _ _ _ _ _ _ _ _ hb => absurd rfl hb

/-! Frames and results. -/
theorem frameOf_cons (v : V) (l : List V) (fr : Fr) (i : Nat) : frameOf (v :: l) fr i = frameOf l (set3 fr i v) (i + 1) := by
  show num (Nat.succ i) (fun m => frameOf l (set3 fr i v) m) = _
  rw [num_eq]
theorem frameOf_get : ∀ (l : List V) (fr : Fr) (i t : Nat), i + l.length ≤ 512 → t < 512 → get3 (frameOf l fr i) t = if h : i ≤ t ∧ t < i + l.length then l[t - i]'(by omega) else get3 fr t
  | [], fr, i, t, _, _ => by
    have h : ¬ (i ≤ t ∧ t < i + ([] : List V).length) := by rintro ⟨h1, h2⟩; exact absurd (Nat.lt_of_lt_of_le h2 h1) (Nat.lt_irrefl _)
    rw [dif_neg h]; rfl
  | v :: l, fr, i, t, h, ht => by
    simp only [List.length_cons] at h
    rw [frameOf_cons, frameOf_get l _ (i + 1) t (by omega) ht, get3_set3 _ _ _ _ ht (by omega)]
    by_cases h1 : t = i
    · subst h1
      rw [dif_neg (by omega), if_pos rfl, dif_pos (by simp)]
      simp
    · rw [if_neg h1]
      by_cases h2 : i + 1 ≤ t ∧ t < i + 1 + l.length
      · rw [dif_pos h2, dif_pos (by simp only [List.length_cons]; omega)]
        have : t - i = (t - (i + 1)) + 1 := by omega
        simp only [this, List.getElem_cons_succ]
      · rw [dif_neg h2, dif_neg (by simp only [List.length_cons]; omega)]
theorem frame_FR {ρ : Rho} {args : List V} {args' : Array Value} {nt : Nat} (hl : args.length ≤ nt) (hn : nt ≤ 512) (ha : VRs ρ args args'.toList) (hg : Glob ρ G) :
    FR ρ ⟨nt, G⟩ (frameOf args F0 0) { tmps := args' ++ Array.replicate (nt - args'.size) undef, defers := [] } := by
  have hsz : args.length = args'.size := by have := ha.length; simpa using this
  refine ⟨by simp; omega, hn, rfl, fun t ht => ?_, hg⟩
  have ht : t < nt := ht
  rw [frameOf_get _ _ _ _ (by omega) (by omega)]
  by_cases h : t < args.length
  · rw [dif_pos (by omega)]
    obtain ⟨x, hx, hv⟩ := ha.get (List.getElem?_eq_getElem h)
    have hx' : args'[t]? = some x := by simpa using hx
    have : (args' ++ Array.replicate (nt - args'.size) undef).getD t undef = x := by
      rw [Array.getD_eq_getD_getElem?, Array.getElem?_append_left (by omega), hx']; rfl
    simp only [Nat.sub_zero]
    rw [this]; exact hv
  · rw [dif_neg (by omega)]
    have h0 : get3 F0 t = V.undef := get3_rep _ _
    rw [h0]
    have : (args' ++ Array.replicate (nt - args'.size) undef).getD t undef = undef := by
      rw [Array.getD_eq_getD_getElem?, Array.getElem?_append_right (by omega), Array.getElem?_replicate]
      rw [if_pos (by omega)]; rfl
    rw [this]; exact undef_VR ρ
theorem resL_cons (P : Program) (fr : Fr) (h : Hp) (r : ResultVar) (l : List ResultVar) : resL P n fr h (r :: l) = ob (resV P n fr h r) fun v => ob (resL P n fr h l) fun vs => some (v :: vs) := rfl
def resOf (tmps : Array Value) : ResultVar → Sem Value
  | .tmp t => pure (tmps.getD t undef)
  | .cell a t => do loadVar t (← asAddr (tmps.getD a undef))
theorem resL_sound {P : Program} {ρ : Rho} {h : Hp} {w : World} (hs : Sim ρ h w) {fr : Fr} {a : Act} (hf : FR ρ n fr a) : ∀ {l : List ResultVar} {vs : List V}, resL P n fr h l = some vs →
    ∃ ws, (l.mapM (resOf a.tmps)).run P w = .ok ws w ∧ VRs ρ vs ws
  | [], _, hr => by cases hr; exact ⟨[], rfl, rfl⟩
  | r :: l, vs, hr => by
    rw [resL_cons] at hr
    obtain ⟨v, hv, h2⟩ := ob_some hr
    obtain ⟨vs', hvs, h3⟩ := ob_some h2
    cases h3
    obtain ⟨ws, k1, k2⟩ := resL_sound hs hf hvs
    have : ∃ x, (resOf a.tmps r).run P w = .ok x w ∧ VR ρ v x := by
      cases r with
      | tmp t => cases hv; exact ⟨_, rfl, ev_VR hf (.tmp t)⟩
      | cell t ty =>
        have hx := ev_VR hf (.tmp t)
        obtain ⟨x, q1, q2⟩ := loadV_sound hs hv hx
        refine ⟨x, ?_, q2⟩
        have e : a.eval (.tmp t) = a.tmps.getD t undef := rfl
        have hp : ∃ id off, ev n fr (.tmp t) = .ptr id off := by
          have hv' : loadV P ty h (ev n fr (.tmp t)) = some v := hv
          unfold loadV at hv'
          split at hv'
          · rename_i id off he; exact ⟨id, off, he⟩
          · cases hv'
        obtain ⟨id, off, hp⟩ := hp
        rw [hp] at hx
        simp only [VR] at hx
        obtain ⟨b, z, hpv, _⟩ := hx
        simp only [resOf]
        rw [← e, hpv]
        rw [hpv] at q1
        simpa [Instr.loadAt, Instr.sureAddr, asAddr] using q1
    obtain ⟨x, k3, k4⟩ := this
    exact ⟨x :: ws, by simp [List.mapM_cons, k3, k1], ⟨x, ws, rfl, k4, k2⟩⟩
theorem finO_sound {P : Program} {fn : Func} {ρ : Rho} {h : Hp} {w : World} (hs : Sim ρ h w) {fr : Fr} {a : Act} (hf : FR ρ n fr a) (hb : finO P n fn fr h ≠ .bad) :
    ∃ v v', finO P n fn fr h = .val v h ∧ (results fn a.tmps).run P w = .ok v' w ∧ VR ρ v v' := by
  obtain ⟨vs, hvs, hc⟩ := oo_val rfl hb
  obtain ⟨ws, k1, k2⟩ := resL_sound hs hf hvs
  have hm : (fn.results.mapM (resOf a.tmps)).run P w = .ok ws.toArray w := by
    rw [Array.mapM_eq_mapM_toList]
    simp [k1]
  have hres : (results fn a.tmps).run P w = .ok (if h : ws.toArray.size = 1 then ws.toArray[0] else .tuple ws.toArray) w := by
    have e : results fn a.tmps = (fn.results.mapM (resOf a.tmps) >>= fun vs => pure (if h : vs.size = 1 then vs[0] else .tuple vs)) := by
      unfold results
      congr 1
    rw [e, Sem.run_bind, hm]; rfl
  refine ⟨results1 vs, _, hc.symm, hres, ?_⟩
  have hl := k2.length
  unfold results1
  split
  · rename_i v
    cases ws with
    | nil => simp at hl
    | cons x xs =>
      cases xs with
      | cons y ys => simp at hl
      | nil =>
        obtain ⟨x', xs', he, q1, _⟩ := k2
        cases he
        simpa using q1
  · rename_i hne
    have hn1 : ¬ ws.toArray.size = 1 := by
      intro h1
      have h1 : ws.length = 1 := by simpa using h1
      rw [h1] at hl
      obtain ⟨v, hv⟩ := List.length_eq_one_iff.1 hl
      exact hne v hv
    rw [dif_neg hn1]
    simp only [VR]
    exact ⟨_, rfl, by simpa using k2⟩

theorem body_left (hE : EnvOk E G) (hcall : CallOk E.P G call) (f : Nat) (args : List V) (h : Hp) (hb : body E call G f args h ≠ .bad) :
    Plain E.P f ∧ ∀ ρ w (args' : Array Value), Sim ρ h w → Fresh ρ h → Glob ρ G → VRs ρ args args'.toList → Calls E.P f args' w (EndsC ρ h w (body E call G f args h)) := by
  obtain ⟨fn, hfn, h1⟩ := oo_val (x := body E call G f args h) rfl hb
  obtain ⟨c, hc, h2⟩ := oo_val h1 hb
  simp only [num_eq] at h2
  obtain ⟨h3, h4⟩ := br_bad h2 hb
  simp only [Bool.and_eq_true, ble_eq', lenL_eq, decide_eq_true_eq] at h3
  obtain ⟨t1, t2⟩ := hE.tbl f fn hfn
  refine ⟨⟨fn, c, t1, t2, hc⟩, fun ρ w args' hs hfr hg ha => ?_⟩
  have hf := frame_FR h3.1 h3.2 ha hg
  generalize hr : exec E call ⟨fn.ntmps, G⟩ c (frameOf args F0 0) h = r at h4
  have hrb : r ≠ .bad := fun e => by rw [e] at h4; exact hb h4.symm
  have hw := exec_sound hE hcall (n := ⟨fn.ntmps, G⟩) rfl c ρ (frameOf args F0 0) h _ w hs hfr hf (by rw [hr]; exact hrb)
  rw [hr] at hw
  refine calls_of_wp t1 hc (wp_mono hw fun e a' w' hends => ?_)
  rw [← h4] at hb ⊢
  cases r with
  | bad => exact absurd rfl hrb
  | norm fr' h' =>
    cases e <;> first | exact hends.elim | skip
    obtain ⟨ρ', q1, q2, q3⟩ := hends
    obtain ⟨v, v', k1, k2, k3⟩ := finO_sound q1.sim q3 (fn := fn) (P := E.P) hb
    refine ⟨q3.noDefers, v', k2, ?_⟩
    have k1 : finish E.P ⟨fn.ntmps, G⟩ fn (.norm fr' h') = .val v h' := k1
    rw [k1]; exact ⟨ρ', q1, q2, k3⟩
  | ret fr' h' =>
    cases e <;> first | exact hends.elim | skip
    obtain ⟨ρ', q1, q2, q3⟩ := hends
    obtain ⟨v, v', k1, k2, k3⟩ := finO_sound q1.sim q3 (fn := fn) (P := E.P) hb
    refine ⟨q3.noDefers, v', k2, ?_⟩
    have k1 : finish E.P ⟨fn.ntmps, G⟩ fn (.ret fr' h') = .val v h' := k1
    rw [k1]; exact ⟨ρ', q1, q2, k3⟩
  | exit _ _ _ => exact absurd rfl hb
  | pan v fr' h' =>
    cases e <;> first | exact hends.elim | skip
    obtain ⟨ρ', v', e1, q1, q2, q3, q4⟩ := hends
    exact ⟨q3.noDefers, ρ', v', e1, q1, q2, q4⟩
theorem callAt_none {m : Nat} {f : Nat} (hx : E.nat f = none) (args : List V) (h : Hp) : callAt E G (m + 1) f args h = body E (callAt E G m) G f args h := by
  show @Option.rec (List V → Hp → O) (fun _ => O) (body E (callAt E G m) G f args h) (fun g => g args h) (E.nat f) = _
  rw [hx]
theorem callAt_sound (hE : EnvOk E G) : ∀ n, CallOk E.P G (callAt E G n)
  | 0 => fun _ _ _ hb => absurd rfl hb
  | m + 1 => by
    intro f args h hb
    cases hx : E.nat f with
    | none =>
      rw [callAt_none hx] at hb ⊢
      exact .inl (body_left hE (callAt_sound hE m) f args h hb)
    | some g =>
      have e : callAt E G (m + 1) f args h = g args h := by
        show @Option.rec (List V → Hp → O) (fun _ => O) (body E (callAt E G m) G f args h) (fun g => g args h) (E.nat f) = _
        rw [hx]
      rw [e] at hb ⊢
      exact .inr (hE.nat f g hx args h hb)
end
end Go.Eng
