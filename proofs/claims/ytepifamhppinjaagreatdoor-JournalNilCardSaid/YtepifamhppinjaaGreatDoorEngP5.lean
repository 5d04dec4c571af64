import Derived.Test.YtepifamhppinjaaGreatDoorEngP4
/- The engine: what only reads is Go's (fifth part): aggregates, conversions, lengths. -/
namespace Go.Eng
variable {P : Program}

theorem cells_VR {ρ : Rho} {v : V} {x : Value} (h : VR ρ v x) (hk : v.known = true) : VRs ρ v.cells x.cells.toList := by
  cases v <;> simp only [VR] at h <;> first
    | (cases hk; done)
    | (obtain ⟨cs, rfl, hv⟩ := h; exact hv)
    | skip
  all_goals simp only [V.cells, VRs]
  all_goals refine ⟨x, [], ?_, by simpa only [VR] using h, rfl⟩
  all_goals first
    | (subst h; rfl)
    | (obtain ⟨_, rfl, _⟩ := h; rfl)
    | (obtain ⟨_, _, rfl, _⟩ := h; rfl)
    | (obtain ⟨_, _, _, rfl, _⟩ := h; rfl)

theorem lay_cons (v : V) (l cs : List V) (i : Nat) : lay (v :: l) cs i = lay l (setNth cs i v) (i + 1) := rfl
theorem VRs.set {ρ : Rho} : ∀ {l : List V} {w : List Value}, VRs ρ l w → ∀ (i : Nat) {v : V} {x : Value}, VR ρ v x → VRs ρ (l.set i v) (w.set i x)
  | [], _, h, i, v, x, _ => by simp only [VRs] at h; subst h; simp [VRs]
  | a :: l, _, h, i, v, x, hv => by
    simp only [VRs] at h
    obtain ⟨y, ys, rfl, h1, h2⟩ := h
    cases i with
    | zero => simp only [List.set_cons_zero, VRs]; exact ⟨_, _, rfl, hv, h2⟩
    | succ i => simp only [List.set_cons_succ, VRs]; exact ⟨_, _, rfl, h1, VRs.set h2 i hv⟩
theorem lay_VRs {ρ : Rho} : ∀ {l : List V} {ls : List Value}, VRs ρ l ls → ∀ {cs : List V} {cs' : Array Value} (i k : Nat), VRs ρ cs cs'.toList →
    VRs ρ (lay l cs (i + k)) ((ls.zipIdx k).foldl (fun cs (p : Value × Nat) => cs.setIfInBounds (i + p.2) p.1) cs').toList
  | [], _, h, cs, cs', i, k, hc => by simp only [VRs] at h; subst h; exact hc
  | v :: l, _, h, cs, cs', i, k, hc => by
    simp only [VRs] at h
    obtain ⟨y, ys, rfl, h1, h2⟩ := h
    rw [lay_cons]
    simp only [List.zipIdx_cons, List.foldl_cons]
    have := lay_VRs h2 (cs := setNth cs (i + k) v) (cs' := cs'.setIfInBounds (i + k) y) i (k + 1) (by rw [setNth_eq, Array.toList_setIfInBounds]; exact VRs.set hc _ h1)
    simpa [Nat.add_assoc] using this

def PRs (ρ : Rho) : List (Nat × V) → List (Nat × Value) → Prop
  | [], w => w = []
  | p :: l, w => ∃ x xs, w = (p.1, x) :: xs ∧ VR ρ p.2 x ∧ PRs ρ l xs
theorem fillV_sound {place : Nat → Option (Nat × Nat)} {ρ : Rho} : ∀ {ps : List (Nat × V)} {ps' : List (Nat × Value)}, PRs ρ ps ps' → ∀ {cs l : List V} {cs' : Array Value}, fillV place ps cs = some l → VRs ρ cs cs'.toList →
    ∃ l' : Array Value, Instr.fill place cs' ps' = some l' ∧ VRs ρ l l'.toList
  | [], _, h, cs, l, cs', hf, hc => by cases h; cases hf; exact ⟨cs', rfl, hc⟩
  | p :: ps, _, h, cs, l, cs', hf, hc => by
    obtain ⟨x, xs, rfl, h1, h2⟩ := h
    obtain ⟨q, hq, g⟩ := ob_some (show ob (place p.1) (fun q => br (and p.2.known (and (Nat.beq (lenL p.2.cells) q.2) (Nat.ble (Nat.add q.1 (lenL p.2.cells)) (lenL cs)))) (fillV place ps (lay p.2.cells cs q.1)) none) = some l from hf)
    obtain ⟨g1, g2⟩ := br_none g
    simp only [beq_eq', ble_eq', lenL_eq, Bool.and_eq_true, decide_eq_true_eq] at g1
    obtain ⟨hk, hl, hb⟩ := g1
    have hcv := cells_VR h1 hk
    have hlen : x.cells.size = q.2 := by rw [← hl, hcv.length]; simp
    have hb' : q.1 + x.cells.size ≤ cs'.size := by
      have e1 : cs.length = cs'.size := by rw [hc.length]; simp
      rw [hlen, ← hl, ← e1]; exact hb
    have hlay := lay_VRs hcv (cs := cs) (cs' := cs') q.1 0 hc
    obtain ⟨l', k1, k2⟩ := fillV_sound h2 g2 hlay
    refine ⟨l', ?_, k2⟩
    unfold Instr.fill
    rw [hq]
    simp only [hlen, ne_eq]
    rw [if_neg (by simp; omega)]
    rw [← k1]
    congr 1
    rw [← Array.foldl_toList, Array.toList_zipIdx]
theorem partsV_PRs {ρ : Rho} {n : Sz} {fr : Fr} {a : Act} (hf : FR ρ n fr a) : ∀ ps : List (Nat × Operand), PRs ρ (partsV n fr ps) (ps.map fun p => (p.1, a.eval p.2))
  | [] => rfl
  | p :: ps => ⟨a.eval p.2, _, rfl, ev_VR hf p.2, partsV_PRs hf ps⟩

theorem run_zeroV {t : Nat} {z : V} (h : zeroV P t = some z) : ∃ z' i, P.info? t = some i ∧ i.zero = some z' ∧ z = ofValue z' ∧ ∀ w, (zeroValue t).run P w = .ok z' w := by
  obtain ⟨i, hi, g⟩ := ob_some h
  obtain ⟨z', hz, g2⟩ := ob_some g
  cases g2
  exact ⟨z', i, hi, hz, rfl, fun w => by simp [zeroValue, typeInfo, hi, hz]⟩
theorem ofValue_known (z : Value) (h : (ofValue z).known = true) (ρ : Rho) : VRs ρ (ofValue z).cells z.cells.toList := cells_VR (ofValue_VR ρ z) h

theorem allSz_cons {f : Field} {fs : List Field} (h : allSz P (f :: fs) = true) : (∃ z, szOf P f.type = some z) ∧ allSz P fs = true := by
  have h' : br (@Option.rec Nat (fun _ => Bool) false (fun _ => true) (szOf P f.type)) (allSz P fs) false = true := h
  cases hz : szOf P f.type with
  | none => rw [hz] at h'; cases h'
  | some z => rw [hz] at h'; exact ⟨⟨z, rfl⟩, h'⟩
theorem run_places : ∀ (fs : List Field), allSz P fs = true → ∀ w : World, (fs.mapM fun f => (do pure (f.offset, ← sizeOf f.type) : Sem (Nat × Nat))).run P w = .ok (fs.map fun f => (f.offset, P.cellsOf f.type)) w
  | [], _, w => rfl
  | f :: fs, h, w => by
    obtain ⟨⟨z, hz⟩, h2⟩ := allSz_cons h
    obtain ⟨i, hi, e, ec⟩ := szOf_eq hz
    rw [List.mapM_cons]
    simp only [Sem.run_bind, run_szOf hz, Result.andThen_ok, Sem.run_pure, run_places fs h2 w, List.map_cons, ec]
theorem allSz_get : ∀ {fs : List Field}, allSz P fs = true → ∀ {i : Nat} {f : Field}, fs[i]? = some f → ∃ z, szOf P f.type = some z
  | [], _, i, f, h => by simp at h
  | g :: fs, ha, i, f, h => by
    obtain ⟨h1, h2⟩ := allSz_cons ha
    cases i with
    | zero => simp at h; subst h; exact h1
    | succ i => exact allSz_get h2 (by simpa using h)
theorem placeS_eq (fs : List Field) (h : allSz P fs = true) (i : Nat) : placeS P fs i = (fs.map fun f => (f.offset, P.cellsOf f.type))[i]? := by
  unfold placeS
  rw [nth_eq, List.getElem?_map]
  cases hf : fs[i]? with
  | none => rfl
  | some f =>
    obtain ⟨z, hz⟩ := allSz_get h hf
    obtain ⟨_, _, _, ec⟩ := szOf_eq hz
    simp [hz, ec]

theorem buildV_sound {t : Nat} {n : Sz} {fr : Fr} {ps : Array (Nat × Operand)} {v : V} (h : buildV P t n ps.toList fr = some v) {ρ : Rho} {a : Act} (hf : FR ρ n fr a) (w : World) :
    ∃ v', (Instr.build t (ps.map fun (i, x) => (i, a.eval x))).run P w = .ok v' w ∧ VR ρ v v' := by
  obtain ⟨d, hd, g⟩ := ob_some h
  obtain ⟨z, hz, g1⟩ := ob_some g
  obtain ⟨hk, g2⟩ := br_none g1
  obtain ⟨z', i, hi, hz', rfl, hrun⟩ := run_zeroV hz
  have hzc := ofValue_known z' hk ρ
  have hps : PRs ρ (partsV n fr ps.toList) (ps.map fun (i, x) => (i, a.eval x)).toList := by
    rw [Array.toList_map]; exact partsV_PRs hf _
  cases d <;> first | (cases g2; done) | skip
  · rename_i len e
    obtain ⟨sz, hsz, g3⟩ := ob_some g2
    obtain ⟨l, hl, g4⟩ := ob_some g3
    cases g4
    obtain ⟨l', k1, k2⟩ := fillV_sound hps hl hzc
    refine ⟨.agg l', ?_, by simp only [VR]; exact ⟨l', rfl, k2⟩⟩
    have k1' : Instr.fill (fun i => some (i * sz, sz)) z'.cells (ps.map fun (i, x) => (i, a.eval x)).toList = some l' := k1
    simp only [Instr.build, Sem.run_bind, hrun, Result.andThen_ok, run_und hd, run_szOf hsz, k1', Sem.run_pure]
  · rename_i fs
    obtain ⟨hall, g3⟩ := br_none g2
    obtain ⟨l, hl, g4⟩ := ob_some g3
    cases g4
    obtain ⟨l', k1, k2⟩ := fillV_sound hps hl hzc
    refine ⟨.agg l', ?_, by simp only [VR]; exact ⟨l', rfl, k2⟩⟩
    have hpl : (fs.mapM fun f => (do pure (f.offset, ← sizeOf f.type) : Sem (Nat × Nat))).run P w = .ok (fs.toList.map fun f => (f.offset, P.cellsOf f.type)).toArray w := by
      rw [Array.mapM_eq_mapM_toList, Sem.run_map, run_places _ hall w]; rfl
    have k1' : Instr.fill (fun i => (fs.toList.map fun f => (f.offset, P.cellsOf f.type)).toArray[i]?) z'.cells (ps.map fun (i, x) => (i, a.eval x)).toList = some l' := by
      rw [← k1]; congr 1; funext i; rw [placeS_eq _ hall]; simp
    simp only [Instr.build, Sem.run_bind, hrun, Result.andThen_ok, run_und hd, hpl, k1', Sem.run_pure]
end Go.Eng
