import Derived.Test.YtepifamhppinjaaGreatDoorEngD
/- The engine: regions are Go's. -/
namespace Go.Eng

section
variable {P : Program} {n : Sz} {fr : Fr} {a : Act} {ρ : Rho}
theorem wantE_sound (hf : FR ρ n fr a) {ops : Array Oper} {o : Oper} {b : Bool} (h : wantE n ops.toList o.guard fr = some b) : Region.wanted o (yielded ops a.tmps) = b := by
  unfold Region.wanted
  cases hg : o.guard with
  | none => rw [hg] at h; cases h; rfl
  | some g =>
    obtain ⟨j, want⟩ := g
    rw [hg] at h
    obtain ⟨p, hp, h2⟩ := ob_some h
    obtain ⟨t, ht, h3⟩ := ob_some h2
    obtain ⟨hlt, h4⟩ := br_none h3
    simp only [lt_eq, decide_eq_true_eq] at hlt
    simp only [nth_eq] at hp
    have hp' : ops[j]? = some p := by simpa using hp
    have hv := hf.val t hlt
    have hsz := hf.size
    have htm : a.tmps[t]? = some (a.tmps.getD t undef) := by
      simp [Array.getD, hsz, hlt]
    split at h4
    · rename_i v hv2
      rw [hv2] at hv
      simp only [VR] at hv
      have : yielded ops a.tmps j = some v := by simp [yielded, hp', ht, htm, hv]
      simp only [this]
      cases h4
      cases v <;> cases want <;> rfl
    · rename_i v hv2
      rw [hv2] at hv
      simp only [VR] at hv
      obtain ⟨cs, hcs, _⟩ := hv
      have : yielded ops a.tmps j = none := by simp [yielded, hp', ht, htm, hcs]
      simp only [this]
      cases h4; rfl
    · cases h4
end

theorem Oper.wp_mono2 {P : Program} {o : Oper} {a : Act} {w : World} {K K' : Act → World → Prop} {Q Q' : Exit → Act → World → Prop} (h : ∀ a w, K a w → K' a w) (hq : ∀ e a w, Q e a w → Q' e a w)
    (hh : o.wp P a w K Q) : o.wp P a w K' Q' := by
  unfold Oper.wp at *
  generalize (execOp a.eval o).run P w = r at *
  cases r with
  | ok n w' =>
    cases n <;> simp only [Oper.upon] at hh ⊢ <;>
      first
        | exact h _ _ hh
        | exact Calls.mono hh (fun e w'' he => by cases e <;> first | exact h _ _ he | exact hq _ _ _ he | exact he.imp fun _ => Exists.imp fun _ => hq _ _ _)
        | exact Rows.mono hh (fun _ _ he => h _ _ he)
  | halt x w' => cases x <;> simp only [Oper.upon] at hh ⊢ <;> exact hq _ _ _ hh
theorem wpOps_mono {P : Program} {ops : Array Oper} {Q Q' : Exit → Act → World → Prop} (hq : ∀ e a w, Q e a w → Q' e a w) : ∀ (l : List Nat) {a : Act} {w : World}, wpOps P ops Q l a w → wpOps P ops Q' l a w
  | [], _, _, h => hq _ _ _ h
  | i :: l, a, w, h => by
    simp only [wpOps] at h ⊢
    split
    · rename_i hn; simp only [hn] at h; exact wpOps_mono hq l h
    · rename_i o ho
      simp only [ho] at h
      split
      · rename_i hw
        rw [if_pos hw] at h
        exact h.imp (Oper.wp_mono2 (fun a w => wpOps_mono hq l) hq) fun ⟨h1, h2⟩ => ⟨h1, h2.imp fun _ => Exists.imp fun _ => hq _ _ _⟩
      · rename_i hw
        rw [if_neg hw] at h
        exact wpOps_mono hq l h

section
variable {E : Env} {G : Nat} {call : Call} {n : Sz}
theorem runL_cons (ops : List Oper) (o : Oper) (l : List Oper) : runL E call n ops (o :: l) = stepO E call n ops o (runL E call n ops l) := rfl
theorem runL_sound (hcall : CallOk E.P G call) (hG : n.g = G) (ops : Array Oper) : ∀ (l : List Oper) (k : Nat), (∀ i, i < l.length → ops[k + i]? = l[i]?) →
    ∀ ρ fr h a w, Sim ρ h w → Fresh ρ h → FR ρ n fr a → runL E call n ops.toList l fr h ≠ .bad → wpOps E.P ops (Ends n ρ h w (runL E call n ops.toList l fr h)) (List.range' k l.length) a w
  | [], k, _, ρ, fr, h, a, w, hs, hfr, hf, _ => ⟨ρ, Ext.refl hs, hfr, hf⟩
  | o :: l, k, hl, ρ, fr, h, a, w, hs, hfr, hf, hb => by
    have hok : ops[k]? = some o := by have := hl 0 (by simp); simpa using this
    have hl' : ∀ i, i < l.length → ops[k + 1 + i]? = l[i]? := fun i hi => by
      have := hl (i + 1) (by simpa using hi)
      rw [show k + 1 + i = k + (i + 1) by omega, this]; rfl
    rw [runL_cons] at hb ⊢
    simp only [List.length_cons, List.range'_succ, wpOps, hok]
    unfold stepO at hb ⊢
    cases hw : wantE n ops.toList o.guard fr with
    | none => rw [hw] at hb; exact absurd rfl hb
    | some b =>
      rw [hw] at hb
      rw [wantE_sound hf hw]
      cases b with
      | true =>
        simp only [br_true, if_true] at hb ⊢
        refine .inl ?_
        have hxb : xOp E call n o.op fr h ≠ .bad := fun e => hb (by rw [e])
        refine xOp_sound hcall hG hs hfr hf o rfl hxb _ _ (fun v h' ρ' v' w' hr x hfr' hv => ?_) (fun v h' ρ' v' w' hr x hfr' hv => ?_)
        · have hf' := put_FR (hf.mono x.le) o.dst hv
          rw [hr] at hb ⊢
          have := runL_sound hcall hG ops l (k + 1) hl' ρ' (putF n o.dst v fr) h' (a.put o.dst v') w' x.sim hfr' hf' hb
          exact wpOps_mono (fun e a'' w'' he => he.trans x) _ this
        · rw [hr]
          exact ⟨ρ', v', rfl, x, hfr', hf.mono x.le, hv⟩
      | false =>
        simp only [br_false, Bool.false_eq_true, if_false] at hb ⊢
        have hf' := put_FR hf o.dst (undef_VR ρ)
        exact runL_sound hcall hG ops l (k + 1) hl' ρ (putF n o.dst V.undef fr) h (a.put o.dst undef) w hs hfr hf' hb

/-! Regions that only read, in any order. -/
def YieldsW (P : Program) (ops : Array Oper) (w : World) (o : Oper) (v : Value) (a : Act) : Prop :=
  (Region.wanted o (yielded ops a.tmps) = true ∧ (execOp a.eval o).run P w = .ok (.value v) w) ∨ (Region.wanted o (yielded ops a.tmps) = false ∧ v = undef)
theorem YieldsW.same {P : Program} {ops : Array Oper} {w : World} {o : Oper} {v : Value} {a a' : Act} (hy : YieldsW P ops w o v a) (he : execOp a'.eval o = execOp a.eval o)
    (hw : Region.wanted o (yielded ops a'.tmps) = Region.wanted o (yielded ops a.tmps)) : YieldsW P ops w o v a' := by
  unfold YieldsW at *
  rw [he, hw]; exact hy
theorem YieldsW.wpOp {P : Program} {ops : Array Oper} {w : World} {Q : Exit → Act → World → Prop} {i : Nat} {o : Oper} {v : Value} {a : Act} (hi : ops[i]? = some o) (hy : YieldsW P ops w o v a) {K : Act → World → Prop} (h : K (a.put o.dst v) w) : wpOp P ops Q i K a w := by
  unfold Go.wpOp
  simp only [hi]
  rcases hy with ⟨hw, hv⟩ | ⟨hw, rfl⟩
  · simp only [hw, if_true, Oper.wp, hv, Oper.upon]; exact .inl h
  · simp only [hw, Bool.false_eq_true, if_false]; exact h
def RunR (P : Program) (ops : Array Oper) (w : World) : List Nat → Act → Act → Prop
  | [], a, a' => a' = a
  | i :: l, a, a' => ∃ o v, ops[i]? = some o ∧ YieldsW P ops w o v a ∧ RunR P ops w l (a.put o.dst v) a'
def noSels (ops : Array Oper) : Prop := ∀ (j : Nat) (o : Oper) cs b, ops[j]? = some o → o.op ≠ .select cs b
theorem RunR.front {P : Program} {ops : Array Oper} {w : World} (hsel : noSels ops) {j : Nat} {oj : Oper} (hj : ops[j]? = some oj) {l2 : List Nat} : ∀ {l1 : List Nat}, (∀ x ∈ l1, ∀ ox, ops[x]? = some ox → ox.apart ops oj = true) → ∀ {a a' : Act},
    RunR P ops w (l1 ++ j :: l2) a a' → RunR P ops w (j :: (l1 ++ l2)) a a'
  | [], _, _, _, h => h
  | x :: l1, hap, a, a', h => by
    obtain ⟨ox, vx, hx, hyx, h2⟩ := h
    obtain ⟨oj', vj, hj', hyj, h3⟩ := RunR.front hsel hj (fun y hy => hap y (List.mem_cons_of_mem _ hy)) h2
    rw [hj] at hj'; cases hj'
    obtain ⟨s1, s2, s3⟩ := Oper.apart_spec (hap x (List.mem_cons_self ..) ox hx)
    refine ⟨oj, vj, hj, ?_, ox, vx, hx, ?_, ?_⟩
    · exact hyj.same (execOp_put oj (fun cs b => hsel j oj cs b hj) a ox.dst vx s1).symm (wanted_put oj a ox.dst vx s1).symm
    · exact hyx.same (execOp_put ox (fun cs b => hsel x ox cs b hx) a oj.dst vj s3) (wanted_put ox a oj.dst vj s3)
    · rw [← Act.put_comm a vx vj s2]; exact h3
/-- what a region has to be for its order not to matter -/
structure OrderFree (ops : Array Oper) : Prop where
  sel : noSels ops
  back : ∀ i o, ops[i]? = some o → ∀ e ∈ o.after, Region.binds .any e = true → e.on < i
  apart : ∀ i j oi oj, i < j → ops[i]? = some oi → ops[j]? = some oj → (∃ e ∈ oj.after, Region.binds .any e = true ∧ e.on = i) ∨ oi.apart ops oj = true
theorem wpAny_reads {P : Program} {ops : Array Oper} {w : World} {Q : Exit → Act → World → Prop} (ho : OrderFree ops) : ∀ (fuel : Nat) (listed : Array Bool) (l : List Nat) (a a' : Act), l.length = fuel → listed.size = ops.size → l.Pairwise (· < ·) →
    (∀ i, i ∈ l ↔ i < ops.size ∧ listed.getD i true = false) → RunR P ops w l a a' → Q .normal a' w → wpAny P .any ops Q fuel listed a w
  | 0, listed, l, a, a', hlen, hsz, hs, hm, hr, hq => by
    have : l = [] := List.length_eq_zero_iff.1 hlen
    subst this
    cases hr
    refine ⟨?_, hq⟩
    refine List.eq_nil_iff_forall_not_mem.2 fun i hi => ?_
    obtain ⟨h0, o, hoi, _⟩ := mem_ready.1 hi
    have := (hm i).2 ⟨(Array.getElem?_eq_some_iff.1 hoi).1, h0⟩
    cases this
  | fuel + 1, listed, l, a, a', hlen, hsz, hs, hm, hr, hq => by
    have hready : ∀ j, j ∈ Region.ready .any ops listed → wpOp P ops Q j (wpAny P .any ops Q fuel (listed.setIfInBounds j true)) a w := by
      intro j hj
      obtain ⟨h0, oj, hoj, hall⟩ := mem_ready.1 hj
      have hjs := (Array.getElem?_eq_some_iff.1 hoj).1
      have hjl : j ∈ l := (hm j).2 ⟨hjs, h0⟩
      obtain ⟨l1, l2, rfl⟩ := List.append_of_mem hjl
      have hlt : ∀ x ∈ l1, x < j := fun x hx => (List.pairwise_append.1 hs).2.2 x hx j (List.mem_cons_self ..)
      have hgt : ∀ x ∈ l2, j < x := fun x hx => (List.pairwise_cons.1 (List.pairwise_append.1 hs).2.1).1 x hx
      have hfront := RunR.front ho.sel hoj (l1 := l1) (fun x hx ox hox => by
        rcases ho.apart x j ox oj (hlt x hx) hox hoj with ⟨e, he, hb, hon⟩ | h
        · exfalso
          have h1 := hall e he hb
          have h2 := ((hm x).1 (List.mem_append_left _ hx))
          rw [hon] at h1
          have hxs : x < listed.size := by omega
          simp [hxs] at h1
          have h3 := h2.2
          simp [hxs, h1] at h3
        · exact h) hr
      obtain ⟨o', v, ho', hy, hrest⟩ := hfront
      rw [hoj] at ho'; cases ho'
      refine hy.wpOp hoj ?_
      have hpw : (l1 ++ l2).Pairwise (· < ·) := by
        rw [List.pairwise_append] at hs ⊢
        exact ⟨hs.1, (List.pairwise_cons.1 hs.2.1).2, fun x hx y hy => hs.2.2 x hx y (List.mem_cons_of_mem _ hy)⟩
      refine wpAny_reads ho fuel _ (l1 ++ l2) _ a' (by simp at hlen ⊢; omega) (by simp [hsz]) hpw (fun i => ?_) hrest hq
      have hset : (listed.setIfInBounds j true).getD i true = if j = i then true else listed.getD i true := by
        by_cases e : j = i
        · subst e; simp [hsz, hjs]
        · rw [getD_set_ne true e]; simp [e]
      rw [hset]
      have := hm i
      constructor
      · intro hi
        have hne : j ≠ i := fun e => by
          subst e
          rcases List.mem_append.1 hi with h | h
          · exact absurd (hlt _ h) (Nat.lt_irrefl _)
          · exact absurd (hgt _ h) (Nat.lt_irrefl _)
        rw [if_neg hne]
        refine this.1 ?_
        rcases List.mem_append.1 hi with h | h
        · exact List.mem_append_left _ h
        · exact List.mem_append_right _ (List.mem_cons_of_mem _ h)
      · rintro ⟨hi1, hi2⟩
        by_cases e : j = i
        · rw [if_pos e] at hi2; cases hi2
        · rw [if_neg e] at hi2
          have := this.2 ⟨hi1, hi2⟩
          rcases List.mem_append.1 this with h | h
          · exact List.mem_append_left _ h
          · rcases List.mem_cons.1 h with h | h
            · exact absurd h.symm e
            · exact List.mem_append_right _ h
    refine ⟨fun hnil => ?_, hready⟩
    exfalso
    cases l with
    | nil => simp at hlen
    | cons i l =>
      obtain ⟨hi1, hi2⟩ := (hm i).1 (List.mem_cons_self ..)
      have : i ∈ Region.ready .any ops listed := by
        refine mem_ready.2 ⟨hi2, ops[i], by simp [hi1], fun e he hb => ?_⟩
        have hlt := ho.back i ops[i] (by simp [hi1]) e he hb
        have hes : e.on < listed.size := by omega
        have hnot : e.on ∉ i :: l := fun hmem => by
          rcases List.mem_cons.1 hmem with h | h
          · omega
          · have := (List.pairwise_cons.1 hs).1 _ h; omega
        have : ¬ (e.on < ops.size ∧ listed.getD e.on true = false) := fun hh => hnot ((hm e.on).2 hh)
        have h3 : listed.getD e.on true = true := by
          cases hh : listed.getD e.on true with
          | true => rfl
          | false => exact absurd ⟨by omega, hh⟩ this
        simp [hes] at h3 ⊢
        exact h3
      rw [hnil] at this; cases this

/-! Regions. -/
theorem cls_reads {P : Program} {op : Op} (h : cls P op = 0) (E : Env) (hE : E.P = P) (call : Call) (n : Sz) (fr : Fr) (hp : Hp) : xOp E call n op fr hp = val (rdOp E.P n fr hp op) hp := by
  subst hE
  unfold xOp; rw [h]; rfl
theorem runL_reads {ρ : Rho} {h : Hp} {w : World} (hs : Sim ρ h w) (ops : Array Oper) : ∀ (l : List Oper) (k : Nat), (∀ i, i < l.length → ops[k + i]? = l[i]?) → (∀ o ∈ l, cls E.P o.op = 0) →
    ∀ fr a, FR ρ n fr a → runL E call n ops.toList l fr h ≠ .bad → ∃ fr' a', runL E call n ops.toList l fr h = .norm fr' h ∧ RunR E.P ops w (List.range' k l.length) a a' ∧ FR ρ n fr' a'
  | [], k, _, _, fr, a, hf, _ => ⟨fr, a, rfl, rfl, hf⟩
  | o :: l, k, hl, hcl, fr, a, hf, hb => by
    have hok : ops[k]? = some o := by have := hl 0 (by simp); simpa using this
    have hl' : ∀ i, i < l.length → ops[k + 1 + i]? = l[i]? := fun i hi => by
      have := hl (i + 1) (by simpa using hi)
      rw [show k + 1 + i = k + (i + 1) by omega, this]; rfl
    rw [runL_cons] at hb ⊢
    simp only [List.length_cons, List.range'_succ]
    unfold stepO at hb ⊢
    cases hw : wantE n ops.toList o.guard fr with
    | none => rw [hw] at hb; exact absurd rfl hb
    | some b =>
      rw [hw] at hb
      have hwant := wantE_sound hf hw
      cases b with
      | true =>
        simp only [br_true] at hb ⊢
        rw [cls_reads (hcl o (List.mem_cons_self ..)) E rfl] at hb ⊢
        cases hv : rdOp E.P n fr h o.op with
        | none => rw [hv] at hb; exact absurd rfl hb
        | some v =>
          rw [hv] at hb
          obtain ⟨v', k1, k2⟩ := rdOp_sound hs hf o hv
          obtain ⟨fr', a', q1, q2, q3⟩ := runL_reads hs ops l (k + 1) hl' (fun p hp => hcl p (List.mem_cons_of_mem _ hp)) (putF n o.dst v fr) (a.put o.dst v') (put_FR hf o.dst k2) hb
          exact ⟨fr', a', q1, ⟨o, v', hok, .inl ⟨hwant, k1⟩, q2⟩, q3⟩
      | false =>
        simp only [br_false] at hb ⊢
        obtain ⟨fr', a', q1, q2, q3⟩ := runL_reads hs ops l (k + 1) hl' (fun p hp => hcl p (List.mem_cons_of_mem _ hp)) (putF n o.dst V.undef fr) (a.put o.dst undef) (put_FR hf o.dst (undef_VR ρ)) hb
        exact ⟨fr', a', q1, ⟨o, undef, hok, .inr ⟨hwant, rfl⟩, q2⟩, q3⟩
end
end Go.Eng
