import Derived.Test.YtepifamhppinjaaGreatDoorEngF
/- The engine: an operation looks at its operands alone; a frame may forget the rest. -/
namespace Go.Eng

section
variable {P : Program} {n : Sz} {fr fr' : Fr} {h : Hp}
theorem evs_agree {l : List Operand} (hx : ∀ x ∈ l, ev n fr x = ev n fr' x) : evs n fr l = evs n fr' l := by
  induction l with
  | nil => rfl
  | cons x l ih =>
    show ev n fr x :: evs n fr l = ev n fr' x :: evs n fr' l
    rw [hx x (List.mem_cons_self ..), ih fun y hy => hx y (List.mem_cons_of_mem _ hy)]
theorem partsV_agree {l : List (Nat × Operand)} (hx : ∀ p ∈ l, ev n fr p.2 = ev n fr' p.2) : partsV n fr l = partsV n fr' l := by
  induction l with
  | nil => rfl
  | cons p l ih =>
    show (p.1, ev n fr p.2) :: partsV n fr l = (p.1, ev n fr' p.2) :: partsV n fr' l
    rw [hx p (List.mem_cons_self ..), ih fun y hy => hx y (List.mem_cons_of_mem _ hy)]
theorem boundN_agree {o : Option Operand} {d : Nat} (hx : ∀ x ∈ o, ev n fr x = ev n fr' x) : boundN o n fr d = boundN o n fr' d := by
  cases o with
  | none => rfl
  | some x => show asN (ev n fr x) = asN (ev n fr' x); rw [hx x rfl]
theorem rdOp_agree {op : Op} (hx : ∀ x ∈ op.operands, ev n fr x = ev n fr' x) : rdOp P n fr h op = rdOp P n fr' h op := by
  cases op <;> simp only [Op.operands] at hx <;> first | rfl | skip
  case move x => simp only [rdOp, hx x (by simp)]
  case assign x => simp only [rdOp, hx x (by simp)]
  case pick c a b => simp only [rdOp, rPick, hx c (by simp), hx a (by simp), hx b (by simp)]
  case build t ps =>
    have : partsV n fr ps.toList = partsV n fr' ps.toList := partsV_agree fun p hp => hx p.2 (by simp; exact ⟨p.1, by simpa using hp⟩)
    simp only [rdOp, buildV, this]
  case load t x => simp only [rdOp, hx x (by simp)]
  case nilCheck x => simp only [rdOp, rNil, hx x (by simp)]
  case binOp op t x y z => simp only [rdOp, hx x (by simp), hx y (by simp)]
  case unOp op t x => simp only [rdOp, hx x (by simp)]
  case convert s d x => simp only [rdOp, hx x (by simp)]
  case makeInterface t x => simp only [rdOp, rIface, hx x (by simp)]
  case makeFunc f a b =>
    have h1 : evs n fr a.toList = evs n fr' a.toList := evs_agree fun x hm => hx x (by simp; exact .inl (by simpa using hm))
    have h2 : evs n fr b.toList = evs n fr' b.toList := evs_agree fun x hm => hx x (by simp; exact .inr (by simpa using hm))
    cases f <;> simp only [rdOp, h1, h2]
  case slice t x lo hi mx =>
    have h0 := hx x (by simp)
    have h1 : ∀ d, boundN lo n fr d = boundN lo n fr' d := fun d => boundN_agree fun y hy => hx y (by simp at hy; simp [hy])
    have h2 : ∀ d, boundN hi n fr d = boundN hi n fr' d := fun d => boundN_agree fun y hy => hx y (by simp at hy; simp [hy])
    have h3 : ∀ d, boundN mx n fr d = boundN mx n fr' d := fun d => boundN_agree fun y hy => hx y (by simp at hy; simp [hy])
    simp only [rdOp, sliceV, h0, h1, h2, h3]
  case fieldAddr s x f => simp only [rdOp, rFieldAddr, hx x (by simp)]
  case field t x f => simp only [rdOp, rField, hx x (by simp)]
  case indexAddr t x i => simp only [rdOp, hx x (by simp), hx i (by simp)]
  case index t x i => simp only [rdOp, hx x (by simp), hx i (by simp)]
  case lookup t m k ok => simp only [rdOp, rLookup, hx m (by simp), hx k (by simp)]
  case typeAssert x t u ok => simp only [rdOp, rAssert, hx x (by simp)]
  case extract x i => simp only [rdOp, rExtract, hx x (by simp)]
  case call c =>
    have h1 : evs n fr c.args.toList = evs n fr' c.args.toList := evs_agree fun x hm => hx x (by simp [Call.operands]; exact .inr (by simpa using hm))
    simp only [rdOp, rCall, h1]
theorem alOp_agree {op : Op} (hx : ∀ x ∈ op.operands, ev n fr x = ev n fr' x) : alOp P n fr op = alOp P n fr' op := by
  cases op <;> simp only [Op.operands] at hx <;> first | rfl | skip
  case box t x => simp only [alOp, hx x (by simp)]
  case buildSlice t l ps =>
    have : partsV n fr ps.toList = partsV n fr' ps.toList := partsV_agree fun p hp => hx p.2 (by simp; exact ⟨p.1, by simpa using hp⟩)
    simp only [alOp, this]
  case makeMap t r => cases r <;> rfl
  case makeSlice t l c => simp only [alOp, hx l (by simp), hx c (by simp)]
  case convert s d x => simp only [alOp, hx x (by simp)]
  case range t x => simp only [alOp, hx x (by simp)]
theorem hdOp_agree {E : Env} {call : Call} {op : Op} (hx : ∀ x ∈ op.operands, ev n fr x = ev n fr' x) : hdOp E call n fr h op = hdOp E call n fr' h op := by
  cases op <;> simp only [Op.operands] at hx <;> first | rfl | skip
  case store t a x => simp only [hdOp, hx a (by simp), hx x (by simp)]
  case mapUpdate t m k x => simp only [hdOp, hUpdate, hx m (by simp), hx k (by simp), hx x (by simp)]
  case insert t m k x => simp only [hdOp, hUpdate, hx m (by simp), hx k (by simp), hx x (by simp)]
  case next it s => simp only [hdOp, hNext, hx it (by simp)]
  case call c =>
    have h1 : evs n fr c.args.toList = evs n fr' c.args.toList := evs_agree fun x hm => hx x (by simp [Call.operands]; exact .inr (by simpa using hm))
    simp only [hdOp, h1]
    cases hc : c.callee with
    | value g => simp only [hx g (by simp [Call.operands, hc])]
    | builtin b => rfl
    | invoke _ _ => rfl
theorem xOp_agree {E : Env} {call : Call} {op : Op} (hx : ∀ x ∈ op.operands, ev n fr x = ev n fr' x) : xOp E call n op fr h = xOp E call n op fr' h := by
  unfold xOp
  rw [rdOp_agree hx, alOp_agree hx, hdOp_agree hx]

theorem forget (fr : Fr) (keep : Nat → Prop) : ∀ m, m ≤ 512 → ∃ fr' : Fr, ∀ t, t < m → (keep t → get3 fr' t = get3 fr t) ∧ (¬ keep t → get3 fr' t = V.unk)
  | 0, _ => ⟨fr, fun t ht => absurd ht (Nat.not_lt_zero t)⟩
  | m + 1, hm => by
    obtain ⟨fr', h⟩ := forget fr keep m (by omega)
    by_cases hk : keep m
    · refine ⟨set3 fr' m (get3 fr m), fun t ht => ?_⟩
      rw [get3_set3 _ _ _ _ (by omega) (by omega)]
      by_cases e : t = m
      · subst e; rw [if_pos rfl]; exact ⟨fun _ => rfl, fun hn => absurd hk hn⟩
      · rw [if_neg e]; exact h t (by omega)
    · refine ⟨set3 fr' m V.unk, fun t ht => ?_⟩
      rw [get3_set3 _ _ _ _ (by omega) (by omega)]
      by_cases e : t = m
      · subst e; rw [if_pos rfl]; exact ⟨fun hn => absurd hn hk, fun _ => rfl⟩
      · rw [if_neg e]; exact h t (by omega)
/-- a frame that is known at some slots -/
structure PF (ρ : Rho) (n : Sz) (fr : Fr) (a : Act) (keep : Nat → Prop) : Prop where
  size : a.tmps.size = n.n
  small : n.n ≤ 512
  noDefers : a.defers = []
  val : ∀ t, t < n.n → keep t → VR ρ (get3 fr t) (a.tmps.getD t undef)
  glob : ∀ g, g < n.g → ∃ z, ρ g = some (g, z)
theorem PF.full {ρ : Rho} {a : Act} {keep : Nat → Prop} (hp : PF ρ n fr a keep) : ∃ fr', FR ρ n fr' a ∧ ∀ x : Operand, (∀ t, x = .tmp t → keep t) → ev n fr x = ev n fr' x := by
  obtain ⟨fr', h⟩ := forget fr keep n.n hp.small
  refine ⟨fr', ⟨hp.size, hp.small, hp.noDefers, fun t ht => ?_, hp.glob⟩, fun x hx => ?_⟩
  · by_cases hk : keep t
    · rw [(h t ht).1 hk]; exact hp.val t ht hk
    · rw [(h t ht).2 hk]; simp [VR]
  · cases x with
    | tmp t =>
      show br (lt t n.n) (get3 fr t) V.undef = br (lt t n.n) (get3 fr' t) V.undef
      by_cases ht : t < n.n
      · rw [(h t ht).1 (hx t rfl)]
      · simp only [lt_eq, ht, decide_false, br_false]
    | const v => rfl
    | global g => rfl
    | func f => rfl
theorem PF.mono {ρ ρ' : Rho} (hle : ρ.le ρ') {a : Act} {keep : Nat → Prop} (hp : PF ρ n fr a keep) : PF ρ' n fr a keep :=
  ⟨hp.size, hp.small, hp.noDefers, fun t ht hk => VR.mono hle _ _ (hp.val t ht hk), fun g hg => (hp.glob g hg).imp fun _ => hle _ _⟩
theorem FR.part {ρ : Rho} {a : Act} (hf : FR ρ n fr a) (keep : Nat → Prop) : PF ρ n fr a keep := ⟨hf.size, hf.small, hf.noDefers, fun t ht _ => hf.val t ht, hf.glob⟩
end
end Go.Eng
