import Derived.Test.YtepifamhppinjaaGreatDoorEngP5
import Derived.Laws.Small
/- The engine: what only reads is Go's (sixth part): conversions, lengths, and the whole. -/
namespace Go.Eng
variable {P : Program}

theorem isU8_eq {e : Nat} (h : isU8 P e = true) : P.underlying e = some (.int .u8) := by
  unfold isU8 at h
  cases hd : und P e with
  | none => rw [hd] at h; cases h
  | some d =>
    rw [hd] at h
    cases d <;> first | (cases h; done) | skip
    rename_i k
    cases k <;> first | (cases h; done) | exact hd

def byteOfInt (n : Int) : UInt8 := UInt8.ofNat n.toNat
theorem codeV_cons (v : V) (l : List V) (a : Nat) : codeV (v :: l) a = (match v with
    | .int .u8 n => @Int.rec (fun _ => Option Nat) (fun m => br (lt m 256) (num (Nat.add (Nat.mul a 256) m) fun a => codeV l a) none) (fun _ => none) n
    | _ => none) := rfl
theorem codeV_sound {ρ : Rho} : ∀ {l : List V} {cs : List Value} {a c : Nat}, codeV l a = some c → VRs ρ l cs → ∃ ns : List Int, cs = ns.map (Value.int .u8) ∧ encL (ns.map byteOfInt) a = c
  | [], _, a, c, h, hv => by simp only [VRs] at hv; subst hv; cases h; exact ⟨[], rfl, rfl⟩
  | v :: l, _, a, c, h, hv => by
    simp only [VRs] at hv
    obtain ⟨x, xs, rfl, h1, h2⟩ := hv
    rw [codeV_cons] at h
    split at h
    · rename_i n
      cases n with
      | negSucc m => cases h
      | ofNat m =>
        obtain ⟨g1, g2⟩ := br_none h
        simp only [lt_eq, decide_eq_true_eq] at g1
        simp only [num_eq] at g2
        obtain ⟨ns, e1, e2⟩ := codeV_sound g2 h2
        simp only [VR] at h1
        refine ⟨Int.ofNat m :: ns, by simp [h1, e1], ?_⟩
        rw [List.map_cons, encL_cons]
        have : (byteOfInt (Int.ofNat m)).toNat = m := by
          show (UInt8.ofNat m).toNat = m
          rw [UInt8.toNat_ofNat']; omega
        rw [this]; exact e2
    · cases h
theorem push_list (ns : List Int) (s : ByteArray) : (ns.foldl (fun r n => r.push (UInt8.ofNat n.toNat)) s).data.toList = s.data.toList ++ ns.map byteOfInt := by
  induction ns generalizing s with
  | nil => simp
  | cons n ns ih =>
    rw [List.foldl_cons, ih]
    have : (s.push (UInt8.ofNat n.toNat)).data.toList = s.data.toList ++ [byteOfInt n] := by cases s; simp [ByteArray.push, byteOfInt]
    rw [this]; simp
theorem rangeAt_load {w : World} {b o : Nat} {cs : List Value} (h : w.rangeAt b o cs) : (loadCells ⟨b, o, none⟩ cs.length).run P w = .ok cs.toArray w :=
  run_loadCells_list (P := P) w ⟨b, o, none⟩ cs (fun j v hv => by rw [Addr.add_mid]; exact h j v hv)

theorem convV_sound {src dst : Nat} {x v : V} {h : Hp} (hc : convV P src dst x h = some v) {ρ : Rho} {w : World} (hs : Sim ρ h w) {x' : Value} (hx : VR ρ x x') :
    ∃ v', (convert src dst x').run P w = .ok v' w ∧ VR ρ v v' := by
  obtain ⟨s, hsrc, g⟩ := ob_some hc
  obtain ⟨d, hdst, g2⟩ := ob_some g
  clear hc g
  split at g2
  · split at g2
    · rename_i n _ k
      cases g2
      simp only [VR] at hx; subst hx
      exact ⟨.int k (k.wrap n), by simp [convert, run_und hsrc, run_und hdst, Conv.intToInt], by rw [wrapI_eq]; simp [VR]⟩
    · cases g2
  · split at g2
    · cases g2
      simp only [VR] at hx
      obtain ⟨t, rfl, ht⟩ := hx
      exact ⟨.string t, by simp [convert, run_und hsrc, run_und hdst], by simp only [VR]; exact ⟨t, rfl, ht⟩⟩
    · cases g2
  · split at g2
    · obtain ⟨h1, g3⟩ := br_none g2
      cases g3
      simp only [VR] at hx; subst hx
      exact ⟨.string .empty, by rw [run_convert_bytes_string w src dst _ none 0 0 hsrc (isU8_eq h1) hdst]; rfl, by simp only [VR]; exact ⟨.empty, rfl, rfl, rfl⟩⟩
    · cases g2
  · rename_i id off len cap es ex
    split at g2
    · obtain ⟨h1, g3⟩ := br_none g2
      obtain ⟨l, hl, g4⟩ := ob_some g3
      obtain ⟨c, hcode, g5⟩ := ob_some g4
      cases g5
      simp only [VR] at hx
      obtain ⟨b, z, cap', rfl, hr, _⟩ := hx
      obtain ⟨cs, k1, k2, k3, k4⟩ := cells_sound hs hl hr
      obtain ⟨ns, rfl, e2⟩ := codeV_sound hcode k4
      have hld := rangeAt_load (P := P) k3
      rw [k1] at hld
      refine ⟨_, by rw [run_convert_bytes_string w src dst _ _ _ _ hsrc (isU8_eq h1) hdst, run_bytesToString w _ _ _ ns hld], ?_⟩
      simp only [VR]
      refine ⟨_, rfl, SR.mk ?_ ?_⟩
      · rw [push_list]; simpa using k1
      · rw [push_list]; exact e2
    · cases g2
  · cases g2

theorem lenV_sound {t : Nat} {x v : V} {h : Hp} (hc : lenV P t x h = some v) {ρ : Rho} {w : World} (hs : Sim ρ h w) {x' : Value} (hx : VR ρ x x') (ty : TypeId) (ts : Array TypeId) (ht : ts[0]? = some t) :
    ∃ v', (Builtin.len_ ts ty #[x']).run P w = .ok v' w ∧ VR ρ v v' := by
  obtain ⟨d, hd, g⟩ := ob_some hc
  clear hc
  have hx0 : (#[x'] : Array Value)[0]? = some x' := rfl
  split at g
  · cases g
    simp only [VR] at hx
    obtain ⟨s, rfl, hsr⟩ := hx
    exact ⟨.int .i64 s.size, by simp [Builtin.len_, ht, run_und hd, goInt], by simp only [VR, hsr.size]; rfl⟩
  · cases g
    simp only [VR] at hx; subst hx
    exact ⟨.int .i64 0, by simp [Builtin.len_, ht, run_und hd, goInt], by simp only [VR]; rfl⟩
  · rename_i len _ _ _ _
    cases g
    simp only [VR] at hx
    obtain ⟨b, z, cap', rfl, _⟩ := hx
    exact ⟨.int .i64 len, by simp [Builtin.len_, ht, run_und hd, goInt], by simp only [VR]; rfl⟩
  · cases g
    simp only [VR] at hx
    obtain ⟨ad, cap', rfl⟩ := hx
    exact ⟨.int .i64 0, by simp [Builtin.len_, ht, run_und hd, goInt], by simp only [VR]; rfl⟩
  · cases g
    simp only [VR] at hx; subst hx
    exact ⟨.int .i64 0, by simp [Builtin.len_, ht, run_und hd, goInt], by simp only [VR]; rfl⟩
  · rename_i id _ _
    simp only [VR] at hx
    obtain ⟨b, z, rfl, hr⟩ := hx
    cases ho : h.at id with
    | none => rw [ho] at g; cases g
    | arr _ _ => rw [ho] at g; cases g
    | ro _ _ => rw [ho] at g; cases g
    | siter _ _ _ => rw [ho] at g; cases g
    | map es c =>
      rw [ho] at g
      simp only [num_eq, lenL_eq, Option.some.injEq] at g
      subst g
      have h3 := (hs.live id b z hr).2.2
      rw [ho] at h3
      obtain ⟨es', h1, h2⟩ := h3
      have hlen : es.length = es'.size := by
        have : ∀ {l : List (V × V × Nat)} {m : List MapEntry}, ERs ρ l m → l.length = m.length := by
          intro l
          induction l with
          | nil => intro m h; rw [show m = [] from h]; rfl
          | cons e l ih => intro m h; obtain ⟨x, xs, rfl, _, _, _, h4⟩ := h; simp [ih h4]
        simpa using this h2
      have hg : (getObj b).run P w = .ok (.map es' c) w := by simp [getObj, Sem.run, h1]
      exact ⟨.int .i64 es'.size, by simp [Builtin.len_, ht, run_und hd, goInt, hg], by simp only [VR, hlen]; rfl⟩
  · rename_i n _
    cases g
    exact ⟨.int .i64 n, by simp [Builtin.len_, ht, run_und hd, goInt], by simp only [VR]; rfl⟩
  · obtain ⟨d2, hd2, g2⟩ := ob_some g
    split at g2
    · rename_i n _
      cases g2
      refine ⟨.int .i64 n, ?_, by simp only [VR]; rfl⟩
      simp [Builtin.len_, ht, run_und hd, run_und hd2, goInt]
    · cases g2
  · cases g

/-! Maps. -/
theorem ba_beq (s t : ByteArray) : (s == t) = (s.data.toList == t.data.toList) := by
  cases s with | mk a => cases t with | mk b =>
  show (a == b) = (a.toList == b.toList)
  rw [Bool.eq_iff_iff, beq_iff_eq, beq_iff_eq]
  exact Array.toList_inj.symm
theorem veq1_sound {k e : V} {b : Bool} (h : veq1 k e = some b) {P : Program} {kt : Nat} (hk : keyOk P kt k = true) {ρ : Rho} {k' e' : Value} (h1 : VR ρ k k') (h2 : VR ρ e e') :
    ∃ d, P.underlying kt = some d ∧ Instr.sameNow d k' e' = some b := by
  unfold keyOk at hk
  cases hd : und P kt with
  | none => rw [hd] at hk; cases hk
  | some d =>
    rw [hd] at hk
    refine ⟨d, hd, ?_⟩
    have hk : keyD d k = true := hk
    unfold veq1 at h
    split at h
    · cases h
      cases d <;> first | (cases hk; done) | skip
      simp only [VR] at h1 h2
      obtain ⟨s, rfl, hs⟩ := h1
      obtain ⟨t, rfl, ht⟩ := h2
      simp only [Instr.sameNow, Option.some.injEq]
      rw [strEq_eq hs.list ht.list, ba_beq]
    · obtain ⟨g1, g2⟩ := br_none h
      cases g2
      cases ikEq_eq g1
      cases d <;> first | (cases hk; done) | skip
      simp only [VR] at h1 h2
      subst h1; subst h2
      simp only [Instr.sameNow, if_true, intEq_eq]
    · cases h
      cases d <;> first | (cases hk; done) | skip
      simp only [VR] at h1 h2
      subst h1; subst h2
      simp only [Instr.sameNow, Option.some.injEq]
      cases ‹Bool› <;> cases ‹Bool› <;> rfl
    · cases h
theorem keyOk_und {P : Program} {kt : Nat} {k : V} (hk : keyOk P kt k = true) : ∃ d, und P kt = some d ∧ (d = .string ∨ (∃ j, d = .int j) ∨ d = .bool) := by
  unfold keyOk at hk
  cases hd : und P kt with
  | none => rw [hd] at hk; cases hk
  | some d =>
    rw [hd] at hk
    refine ⟨d, rfl, ?_⟩
    have hk : keyD d k = true := hk
    cases d <;> first | (cases hk; done) | exact .inl rfl | exact .inr (.inl ⟨_, rfl⟩) | exact .inr (.inr rfl)
theorem run_checkKey {P : Program} {kt : Nat} {k : V} (hk : keyOk P kt k = true) (b : Bool) (x : Value) (w : World) : (Instr.checkKey b 10000 kt x).run P w = .ok () w := by
  obtain ⟨d, hd, h⟩ := keyOk_und hk
  rw [show (10000 : Nat) = 9999 + 1 from rfl, Instr.checkKey]
  rw [Sem.run_bind, run_und hd]
  rcases h with rfl | ⟨j, rfl⟩ | rfl <;> rfl
theorem findK_cons (k : V) (e : V × V × Nat) (es : List (V × V × Nat)) : findK k (e :: es) = ob (veq1 k e.1) fun b => br b (some (some e.2.1)) (findK k es) := rfl
theorem findK_sound {P : Program} {kt : Nat} {k : V} (hk : keyOk P kt k = true) {d : TypeDesc} (hd : P.underlying kt = some d) {ρ : Rho} {k' : Value} (h1 : VR ρ k k') :
    ∀ {es : List (V × V × Nat)} {es' : List MapEntry}, ERs ρ es es' → ∀ {r : Option V}, findK k es = some r → ∀ i, ∃ r', Instr.findNow d k' es' i = some r' ∧ (match r, r' with | some v, some (_, v') => VR ρ v v' | none, none => True | _, _ => False)
  | [], _, h, r, hf, i => by cases h; cases hf; exact ⟨none, rfl, trivial⟩
  | e :: es, _, h, r, hf, i => by
    obtain ⟨x, xs, rfl, g1, g2, g3, g4⟩ := h
    rw [findK_cons] at hf
    obtain ⟨b, hb, hf2⟩ := ob_some hf
    obtain ⟨d', hd', hsn⟩ := veq1_sound hb hk h1 g1
    rw [hd] at hd'; cases hd'
    cases b with
    | true => cases hf2; exact ⟨some (i, x.val), by simp [Instr.findNow, hsn], g2⟩
    | false =>
      obtain ⟨r', k1, k2⟩ := findK_sound hk hd h1 g4 hf2 (i + 1)
      exact ⟨r', by simp [Instr.findNow, hsn, k1], k2⟩
theorem run_getMap {ρ : Rho} {h : Hp} {w : World} (hs : Sim ρ h w) {id b z c : Nat} {es : List (V × V × Nat)} (hr : ρ id = some (b, z)) (ho : h.at id = .map es c) :
    ∃ es' : Array MapEntry, w.heap[b]? = some (.map es' c) ∧ ERs ρ es es'.toList ∧ (getObj b).run P w = .ok (.map es' c) w := by
  have h3 := (hs.live id b z hr).2.2
  rw [ho] at h3
  obtain ⟨es', h1, h2⟩ := h3
  exact ⟨es', h1, h2, by simp [getObj, Sem.run, h1]⟩
theorem rLookup_sound {n : Sz} {fr : Fr} {a : Act} {ρ : Rho} {h : Hp} {w : World} (hs : Sim ρ h w) (hf : FR ρ n fr a) {t : Nat} {m k : Operand} {ok : Bool} {v : V} (hv : rLookup P n fr h t m k ok = some v) :
    ∃ v', (Instr.lookup t (a.eval m) (a.eval k) ok).run P w = .ok v' w ∧ VR ρ v v' := by
  obtain ⟨d, hd, g⟩ := ob_some hv
  split at g
  · rename_i kt e
    obtain ⟨hk, g2⟩ := br_none g
    obtain ⟨z, hz, g3⟩ := ob_some g2
    obtain ⟨z', i, hi, hz', rfl, hrun⟩ := run_zeroV hz
    obtain ⟨kd, hkd, _⟩ := keyOk_und hk
    have hm := ev_VR hf m
    have hkv := ev_VR hf k
    have out : ∀ (x : V) (x' : Value) (b : Bool), VR ρ x x' → VR ρ (br ok (.tup [x, .bool b]) x) (if ok then .tuple #[x', .bool b] else x') := by
      intro x x' b hx
      cases ok
      · exact hx
      · simp only [br_true, if_true, VR]
        exact ⟨_, rfl, by simp only [VRs, VR]; exact ⟨_, _, rfl, hx, _, _, rfl, rfl, rfl⟩⟩
    split at g3
    · rename_i he
      rw [he] at hm
      simp only [VR] at hm
      cases g3
      refine ⟨_, ?_, out (ofValue z') z' false (ofValue_VR ρ z')⟩
      simp [Instr.lookup, run_und hd, hm, run_checkKey hk, Instr.findKey, run_und hkd, Instr.findNow, hrun]
    · rename_i id he
      rw [he] at hm
      simp only [VR] at hm
      obtain ⟨b, zz, hme, hr⟩ := hm
      cases ho : h.at id with
      | none => rw [ho] at g3; cases g3
      | arr _ _ => rw [ho] at g3; cases g3
      | ro _ _ => rw [ho] at g3; cases g3
      | siter _ _ _ => rw [ho] at g3; cases g3
      | map es c =>
        rw [ho] at g3
        obtain ⟨r, hr1, g4⟩ := ob_some g3
        obtain ⟨es', h1, h2, h3⟩ := run_getMap (P := P) hs hr ho
        obtain ⟨r', k1, k2⟩ := findK_sound hk hkd hkv h2 hr1 0
        cases r with
        | none =>
          cases r' with
          | some p => exact k2.elim
          | none =>
            cases g4
            refine ⟨_, ?_, out (ofValue z') z' false (ofValue_VR ρ z')⟩
            simp [Instr.lookup, run_und hd, hme, h3, run_checkKey hk, Instr.findKey, run_und hkd, k1, hrun]
        | some x =>
          cases r' with
          | none => exact k2.elim
          | some p =>
            obtain ⟨pi, px⟩ := p
            cases g4
            refine ⟨_, ?_, out x px true k2⟩
            simp [Instr.lookup, run_und hd, hme, h3, run_checkKey hk, Instr.findKey, run_und hkd, k1]
    · cases g3
  · cases g

/-! The whole. -/
theorem rPick_sound {n : Sz} {fr : Fr} {a : Act} {ρ : Rho} (hf : FR ρ n fr a) {c x y : Operand} {v : V} (h : rPick n fr c x y = some v) : ∃ t, a.eval c = .bool t ∧ VR ρ v (if t then a.eval x else a.eval y) := by
  unfold rPick at h
  have hc := ev_VR hf c
  split at h
  · rename_i t ht
    rw [ht] at hc
    simp only [VR] at hc
    cases h
    refine ⟨t, hc, ?_⟩
    cases t
    · exact ev_VR hf y
    · exact ev_VR hf x
  · cases h
theorem rNil_sound {n : Sz} {fr : Fr} {a : Act} {ρ : Rho} (hf : FR ρ n fr a) {x : Operand} {v : V} (h : rNil n fr x = some v) :
    VR ρ v (a.eval x) ∧ ((∃ p, a.eval x = .pointer (some p)) ∨ (∃ t y, a.eval x = .iface t y) ∨ (∃ f p q, a.eval x = .func (.func f) p q)) := by
  unfold rNil at h
  have hc := ev_VR hf x
  split at h
  · rename_i id off he
    cases h
    rw [he] at hc
    refine ⟨hc, .inl ?_⟩
    simp only [VR] at hc
    obtain ⟨b, z, e, _⟩ := hc
    exact ⟨_, e⟩
  · rename_i t y he
    cases h
    rw [he] at hc
    refine ⟨hc, .inr (.inl ?_)⟩
    simp only [VR] at hc
    obtain ⟨z, e, _⟩ := hc
    exact ⟨_, _, e⟩
  · rename_i f p q he
    cases h
    rw [he] at hc
    refine ⟨hc, .inr (.inr ?_)⟩
    simp only [VR] at hc
    obtain ⟨z, y, e, _⟩ := hc
    exact ⟨_, _, _, e⟩
  · cases h

/-- what an operation that gives a value comes to -/
def Gives (P : Program) (a : Act) (o : Oper) (w : World) (v : Value) : Prop := (execOp a.eval o).run P w = .ok (.value v) w

theorem rCall_sound {n : Sz} {fr : Fr} {a : Act} {ρ : Rho} {h : Hp} {w : World} (hs : Sim ρ h w) (hf : FR ρ n fr a) {c : Go.Call} {v : V} (hc : rCall P n fr h c = some v) {o : Oper} (ho : o.op = .call c) :
    ∃ v', Gives P a o w v' ∧ VR ρ v v' := by
  unfold rCall at hc
  split at hc
  · rename_i b hb
    have hargs := evs_VR hf c.args.toList
    unfold rBuiltin at hc
    split at hc
    · rename_i x _ t rest y ets exs
      rw [exs] at hargs
      simp only [VRs] at hargs
      obtain ⟨y', ys, he, h1, h2⟩ := hargs
      rw [h2] at he
      have harr : c.args.map a.eval = #[y'] := by apply Array.ext'; rw [Array.toList_map]; exact he
      have ht : c.argTypes[0]? = some t := by rw [← Array.getElem?_toList, ets]; rfl
      obtain ⟨v', k1, k2⟩ := lenV_sound hc hs h1 o.type c.argTypes ht
      refine ⟨v', ?_, k2⟩
      simp [Gives, execOp, ho, resolve, hb, invoke, builtin, harr, k1]
    · rename_i x _ k i j m exs
      rw [exs] at hargs
      simp only [VRs, VR] at hargs
      obtain ⟨_, _, he, rfl, _, _, rfl, rfl, rfl⟩ := hargs
      have harr : c.args.map a.eval = #[.int k i, .int j m] := by apply Array.ext'; rw [Array.toList_map]; exact he
      obtain ⟨_, g⟩ := br_none hc
      cases g
      refine ⟨.int k (if m > i then m else i), ?_, ?_⟩
      · simp [Gives, execOp, ho, resolve, hb, invoke, builtin, harr, run_max_int2]
      · simp only [VR, intLe_eq]
        by_cases hle : m ≤ i
        · simp only [hle, decide_true, br_true]; rw [if_neg (by omega)]
        · simp only [hle, decide_false, br_false]; rw [if_pos (by omega)]
    · rename_i x _ k i j m exs
      rw [exs] at hargs
      simp only [VRs, VR] at hargs
      obtain ⟨_, _, he, rfl, _, _, rfl, rfl, rfl⟩ := hargs
      have harr : c.args.map a.eval = #[.int k i, .int j m] := by apply Array.ext'; rw [Array.toList_map]; exact he
      obtain ⟨_, g⟩ := br_none hc
      cases g
      refine ⟨.int k (if m < i then m else i), ?_, ?_⟩
      · simp [Gives, execOp, ho, resolve, hb, invoke, builtin, harr, run_min_int2]
      · simp only [VR, intLe_eq]
        by_cases hle : i ≤ m
        · simp only [hle, decide_true, br_true]; rw [if_neg (by omega)]
        · simp only [hle, decide_false, br_false]; rw [if_pos (by omega)]
    · cases hc
  · cases hc

theorem rdOp_sound {n : Sz} {fr : Fr} {a : Act} {ρ : Rho} {h : Hp} {w : World} (hs : Sim ρ h w) (hf : FR ρ n fr a) (o : Oper) {v : V} (hv : rdOp P n fr h o.op = some v) :
    ∃ v', Gives P a o w v' ∧ VR ρ v v' := by
  cases ho : o.op <;> rw [ho] at hv <;> simp only [rdOp] at hv <;> first | (cases hv; done) | skip
  case move x => cases hv; exact ⟨_, by simp [Gives, execOp, ho], ev_VR hf x⟩
  case assign x => cases hv; exact ⟨_, by simp [Gives, execOp, ho], ev_VR hf x⟩
  case pick c x y =>
    obtain ⟨t, ht, hr⟩ := rPick_sound hf hv
    refine ⟨_, ?_, hr⟩
    simp only [Gives, execOp, ho, ht, asBool, Sem.run_bind, Sem.run_pure, Result.andThen_ok]
  case build t ps =>
    obtain ⟨v', h1, h2⟩ := buildV_sound hv hf w
    exact ⟨v', by simp [Gives, execOp, ho, h1], h2⟩
  case load t x =>
    obtain ⟨v', h1, h2⟩ := loadV_sound hs hv (ev_VR hf x)
    exact ⟨v', by simp [Gives, execOp, ho, h1], h2⟩
  case nilCheck x =>
    obtain ⟨h1, h2⟩ := rNil_sound hf hv
    refine ⟨_, ?_, h1⟩
    rcases h2 with ⟨p, e⟩ | ⟨t, y, e⟩ | ⟨f, p, q, e⟩ <;> simp [Gives, execOp, ho, e]
  case binOp op t x y yt =>
    obtain ⟨v', h1, h2⟩ := binV_sound hv (ev_VR hf x) (ev_VR hf y) x y w
    refine ⟨v', ?_, h2⟩
    simp only [Gives, execOp, ho]
    rw [Sem.run_bind, h1]; rfl
  case unOp op t x =>
    obtain ⟨v', h1, h2⟩ := unV_sound (P := P) hv (ev_VR hf x) w
    exact ⟨v', by simp [Gives, execOp, ho, h1], h2⟩
  case convert s d x =>
    obtain ⟨v', h1, h2⟩ := convV_sound hv hs (ev_VR hf x)
    exact ⟨v', by simp [Gives, execOp, ho, h1], h2⟩
  case makeInterface t x =>
    obtain ⟨d, hd, g⟩ := ob_some hv
    have : (Instr.makeInterface t (a.eval x)).run P w = .ok (.iface t (a.eval x)) w ∧ v = .iface t (ev n fr x) := by
      cases d <;> first | (cases g; done) | (cases g; exact ⟨by simp [Instr.makeInterface, run_und hd], rfl⟩)
    obtain ⟨h1, rfl⟩ := this
    exact ⟨.iface t (a.eval x), by simp [Gives, execOp, ho, h1], by simp only [VR]; exact ⟨_, rfl, ev_VR hf x⟩⟩
  case makeFunc f p q =>
    split at hv <;> first | (cases hv; done) | skip
    all_goals first
      | (rename_i h1; cases h1; done)
      | (rename_i h1; cases h1; cases hv
         rename_i _ fid
         refine ⟨.func (.func fid) (p.map a.eval) (q.map a.eval), by simp only [Gives, execOp, ho, Instr.makeFunc, Sem.run_bind, Sem.run_pure, Result.andThen_ok], ?_⟩
         simp only [VR]
         exact ⟨_, _, rfl, by rw [Array.toList_map]; exact evs_VR hf _, by rw [Array.toList_map]; exact evs_VR hf _⟩)
  case slice t x lo hi mx =>
    obtain ⟨h0, g⟩ := br_none hv
    have h34 : mx = none ∨ hi ≠ none := by
      cases mx with
      | none => exact .inl rfl
      | some m => cases hi with
        | none => cases h0
        | some k => exact .inr (by simp)
    obtain ⟨v', h1, h2⟩ := sliceV_sound g hf (ev_VR hf x) h34 w
    exact ⟨v', by simp [Gives, execOp, ho, h1], h2⟩
  case fieldAddr s x f =>
    obtain ⟨v', h1, h2⟩ := rFieldAddr_sound hf hv w
    exact ⟨v', by simp [Gives, execOp, ho, h1], h2⟩
  case field s x f =>
    obtain ⟨v', h1, h2⟩ := rField_sound hf hv w
    exact ⟨v', by simp [Gives, execOp, ho, h1], h2⟩
  case indexAddr t x i =>
    obtain ⟨v', h1, h2⟩ := indexAddrV_sound hv (ev_VR hf x) (ev_VR hf i) w
    exact ⟨v', by simp [Gives, execOp, ho, h1], h2⟩
  case index t x i =>
    obtain ⟨v', h1, h2⟩ := indexV_sound hv (ev_VR hf x) (ev_VR hf i) w
    exact ⟨v', by simp [Gives, execOp, ho, h1], h2⟩
  case lookup t m k ok =>
    obtain ⟨v', h1, h2⟩ := rLookup_sound hs hf hv
    exact ⟨v', by simp [Gives, execOp, ho, h1], h2⟩
  case typeAssert x xt t ok =>
    obtain ⟨d, hd, g⟩ := ob_some hv
    have hx := ev_VR hf x
    split at g
    · cases g
    · rename_i hni
      split at g
      · rename_i u y he
        rw [he] at hx
        simp only [VR] at hx
        obtain ⟨y', hy, hv'⟩ := hx
        obtain ⟨h1, g2⟩ := br_none g
        simp only [beq_eq', decide_eq_true_eq] at h1
        subst h1
        have hrun : (Instr.typeAssert (a.eval x) xt u ok).run P w = .ok (if ok then .tuple #[y', .bool true] else y') w := by
          rw [hy]
          unfold Instr.typeAssert
          simp only [Sem.run_bind, run_und hd, Result.andThen_ok]
          cases d <;> first | (exact absurd rfl (hni _)) | simp only [if_true, Sem.run_pure]
        refine ⟨if ok then .tuple #[y', .bool true] else y', by simp only [Gives, execOp, ho, Sem.run_bind, hrun, Result.andThen_ok, Sem.run_pure], ?_⟩
        cases g2
        cases ok
        · exact hv'
        · simp only [br_true, if_true, VR]
          exact ⟨_, rfl, by simp only [VRs, VR]; exact ⟨_, _, rfl, hv', _, _, rfl, rfl, rfl⟩⟩
      · cases g
  case extract x i =>
    unfold rExtract at hv
    have hx := ev_VR hf x
    split at hv
    · rename_i l he
      rw [he] at hx
      simp only [VR] at hx
      obtain ⟨cs, hcs, hl⟩ := hx
      simp only [nth_eq] at hv
      obtain ⟨v', h1, h2⟩ := hl.get hv
      have h1' : cs[i]? = some v' := by simpa using h1
      exact ⟨v', by simp [Gives, execOp, ho, hcs, Instr.extract, h1'], h2⟩
    · cases hv
  case call c => exact rCall_sound hs hf hv ho
end Go.Eng
