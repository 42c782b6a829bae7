/- Code, functions, rounds of loops: what the machine computes is what each run of the model's program comes to. The conditions of each theorem stand with it. -/
import Derived.Test.YtkcjeopdenhafaaGreatKd
import Derived.RowKit3
namespace Go.K
variable {ρ ρ' ρ₁ : Rho} {S S' S₁ : St} {w w' w₁ : World} {P : Program} {cx : Cx}

/-- what is asked of the code of a loop over a function -/
def ccOf (cx : Cx) : CC := fun _ N c k => ∃ fid, cCode cx fid N c = some k ∧ nd k = true

theorem wpIn_loop_n {F : Fence} {n : Nat} {Q : Go.Exit → Act → World → Prop} {a : Act} {c : Code} (I : Nat → Act → World → Prop) (j₀ : Nat) (h₀ : I j₀ a w)
    (round : ∀ j a w, I j a w → c.wpIn F n P (Go.Exit.then (fun a' w' => ∃ i, i < j ∧ I i a' w') Q) a w) : (Code.loop c).wpIn F n P Q a w := by
  intro b k cs hro hb hr
  have key : ∀ j a w, I j a w →
      ∃ e a' w', Q e a' w' ∧ ArrivesIn (Machine.fenced P F) P (lone (b.atR a (.code c :: .inLoop c :: k)) cs w) b k cs e a' w' := by
    intro j
    induction j using Nat.strongRecOn with
    | _ j ih =>
      intro a w hI
      obtain ⟨e, a₁, w₁, hq, harr⟩ := round j a w hI b (.inLoop c :: k) cs hro hb hr
      cases e with
      | normal =>
        obtain ⟨i, hlt, hI₁⟩ := hq
        obtain ⟨e₂, a₂, w₂, hq₂, harr₂⟩ := ih i hlt a₁ w₁ hI₁
        exact ⟨e₂, a₂, w₂, hq₂, .of_steps (StepsIn.trans harr (.one (fenced_calm hb hr rfl) stepR_inLoop)) harr₂⟩
      | exit id => exact ⟨_, a₁, w₁, hq, .pass (x := .inLoop c) rfl (fun _ _ => .inl (by simp)) harr⟩
      | goto l => exact ⟨_, a₁, w₁, hq, .pass (x := .inLoop c) rfl (fun _ _ => .inl (by simp)) harr⟩
      | ret => exact ⟨_, a₁, w₁, hq, .pass (x := .inLoop c) rfl (fun _ _ => .inl (by simp)) harr⟩
      | panic ch => exact ⟨_, a₁, w₁, hq, .pass (x := .inLoop c) rfl (fun _ _ => .inl (by simp)) harr⟩
      | outgrown => exact ⟨_, a₁, w₁, hq, .pass (x := .inLoop c) rfl (fun _ _ => .inl (by simp)) harr⟩
  obtain ⟨e, a', w', hq, harr⟩ := key _ a w h₀
  exact ⟨e, a', w', hq, .of_steps (.one (fenced_calm hb hr rfl) stepR_loop) harr⟩

def exitOf (e : Exit) : Go.Exit := match e with
  | .normal => .normal
  | .ret => .ret
  | .exit id => .exit id

/-- how code is left -/
def PostX (cc : CC) (lo N : Nat) (ρ : Rho) (S : St) (w : World) (p : Exit × Fr) (S' : St) : Go.Exit → Act → World → Prop :=
  fun e a' w' => ∃ ρ', e = exitOf p.1 ∧ Sim cc ρ S w ρ' S' w' ∧ FrR lo N ρ' S' w' p.2 a' ∧ Top S' ρ'

/-- in a round the round's record is there -/
def RoundAt (F : Fence) (w : World) : Prop := ∀ l, F.round = some l → ∃ lp, w.heap[l]? = some (.loop lp)

theorem RoundAt.sim {cc : CC} {F : Fence} (h : RoundAt F w) (hs : Sim cc ρ S w ρ' S' w') : RoundAt F w' := fun l hl => let ⟨lp, h1⟩ := h l hl; hs.frm.loop l lp h1

/-- what is shown of a piece of code -/
def CodeOk (cx : Cx) (P : Program) (cf : CF) (N : Nat) (c : Code) (k : KCode) : Prop :=
  ∀ (F : Fence) (n lf lo : Nat) (fr : Fr) (S : St) (p : Exit × Fr) (S' : St) (ρ : Rho) (a : Act) (w : World), Wide F → (F.round = none ∨ nd k = true) → RoundAt F w → lo ≤ w.heap.size →
    exec cf lf k fr S = .ok p S' → Rel (ccOf cx) ρ S w → FrR lo N ρ S w fr a → Top S ρ → c.wpIn F n P (PostX (ccOf cx) lo N ρ S w p S') a w

/-- drawn regions (shown elsewhere) -/
def DrawnOk (cx : Cx) (P : Program) (cf : CF) : Prop :=
  ∀ fid N id (ops : Array Oper) k, cRegion cx fid N ops.toList true = some k → CodeOk cx P cf N (.region id ops true) k

theorem exitSw_ok {e : Exit} {a b : Res (Exit × Fr)} {p : Exit × Fr} (h : exitSw e a b = .ok p S') : (e = .normal ∧ a = .ok p S') ∨ (e ≠ .normal ∧ b = .ok p S') := by
  cases e with
  | normal => exact .inl ⟨rfl, h⟩
  | ret => exact .inr ⟨by simp, h⟩
  | exit id => exact .inr ⟨by simp, h⟩

theorem ok_region (hcx : CxI P cx) {cf : CF} (hcf : CFOk (ccOf cx) P cf) {fid N id : Nat} {ops : Array Oper} {k : KCode} (h : cRegion cx fid N ops.toList false = some k) : CodeOk cx P cf N (.region id ops false) k := by
  obtain ⟨l, hl, h⟩ := obind_some h
  cases h
  intro F n lf lo fr S p S' ρ a w hF hnd hra hlo hex hr hfr ht
  obtain ⟨fr', S₁, hst, hp⟩ := resBind_ok (show resBind (steps cf l fr S) (fun fr s => Res.ok (Exit.normal, fr) s) = .ok p S' from hex)
  cases hp
  obtain ⟨hlen, hget⟩ := omap_some hl
  refine wpIn_region ?_
  rw [List.range_eq_range']
  refine steps_sound (fid := fid) (ops := ops) hcx hcf hF n ops.size 0 l fr S ρ a w (by simpa using hlen) (fun i ko hi => ?_) (hnd.imp (fun h => h) fun h => (lall_iff _ _).1 h) hst hr hfr ht fun ρ' a' w' h1 h2 h3 => ⟨ρ', rfl, h1, h2, h3⟩
  have hi' : i < ops.toList.length := by rw [← hlen]; exact (List.getElem?_eq_some_iff.1 hi).1
  obtain ⟨b, hb, hfb⟩ := hget i ops.toList[i] (List.getElem?_eq_getElem hi')
  rw [hb] at hi; cases hi
  exact ⟨ops.toList[i], by rw [Nat.zero_add, ← Array.getElem?_toList]; exact List.getElem?_eq_getElem hi', hfb⟩

theorem ok_seq {cf : CF} {N : Nat} {c d : Code} {k m : KCode} (h1 : CodeOk cx P cf N c k) (h2 : CodeOk cx P cf N d m) : CodeOk cx P cf N (.seq c d) (.seq k m) := by
  intro F n lf lo fr S p S' ρ a w hF hnd hra hlo hex hr hfr ht
  obtain ⟨p₁, S₁, e1, e2⟩ := resBind_ok (show resBind (exec cf lf k fr S) (fun p s => exitSw p.1 (exec cf lf m p.2 s) (.ok p s)) = .ok p S' from hex)
  have hnd' : F.round = none ∨ (nd k = true ∧ nd m = true) := hnd.imp id fun h => by simpa using (show band (nd k) (nd m) = true from h)
  refine wpIn_seq (wpIn_mono (h1 F n lf lo fr S p₁ S₁ ρ a w hF (hnd'.imp id (·.1)) hra hlo e1 hr hfr ht) fun e a' w' hq => ?_)
  obtain ⟨ρ₁, he, hs, hfr₁, ht₁⟩ := hq
  rcases exitSw_ok e2 with ⟨hn, e2⟩ | ⟨hn, e2⟩
  · rw [hn] at he
    subst he
    exact wpIn_mono (h2 F n lf lo p₁.2 S₁ p S' ρ₁ a' w' hF (hnd'.imp id (·.2)) (hra.sim hs) (Nat.le_trans hlo hs.frm.size) e2 hs.rel hfr₁ ht₁) fun e a'' w'' ⟨ρ₂, g1, g2, g3, g4⟩ => ⟨ρ₂, g1, hs.trans g2, g3, g4⟩
  · cases e2
    subst he
    have : PostX (ccOf cx) lo N ρ S w p S' (exitOf p.1) a' w' := ⟨ρ₁, rfl, hs, hfr₁, ht₁⟩
    cases hp : p.1 with
    | normal => exact absurd hp hn
    | ret => rw [hp] at this; exact this
    | exit id => rw [hp] at this; exact this

theorem onBool_ok {v : V} {a b : Res (Exit × Fr)} {p : Exit × Fr} (h : onBool v a b = .ok p S') : ∃ t, v = .bool t ∧ bIf t a b = .ok p S' := by
  cases v with
  | bool t => exact ⟨t, rfl, h⟩
  | _ => cases h

theorem ok_cond {cf : CF} {N : Nat} {X : Operand} {x : Opd} {c d : Code} {k m : KCode} (hx : cOpd X = some x) (h1 : CodeOk cx P cf N c k) (h2 : CodeOk cx P cf N d m) : CodeOk cx P cf N (.cond X c d) (.cond x k m) := by
  intro F n lf lo fr S p S' ρ a w hF hnd hra hlo hex hr hfr ht
  obtain ⟨t, hv, he⟩ := onBool_ok (show onBool (fr.env.look x) (exec cf lf k fr S) (exec cf lf m fr S) = .ok p S' from hex)
  have hnd' : F.round = none ∨ (nd k = true ∧ nd m = true) := hnd.imp id fun h => by simpa using (show band (nd k) (nd m) = true from h)
  have vx := opd_sound hx hfr.env
  rw [hv] at vx
  refine wpIn_cond (t := t) vx ?_
  cases t with
  | true => exact h1 F n lf lo fr S p S' ρ a w hF (hnd'.imp id (·.1)) hra hlo he hr hfr ht
  | false => exact h2 F n lf lo fr S p S' ρ a w hF (hnd'.imp id (·.2)) hra hlo he hr hfr ht

theorem ok_block {cf : CF} {N id : Nat} {c : Code} {k : KCode} (h1 : CodeOk cx P cf N c k) : CodeOk cx P cf N (.block id c) (.block id k) := by
  intro F n lf lo fr S p S' ρ a w hF hnd hra hlo hex hr hfr ht
  obtain ⟨p₁, S₁, e1, e2⟩ := resBind_ok (show resBind (exec cf lf k fr S) (fun p s => Res.ok (Exit.rec Exit.normal Exit.ret (fun j => bIf (Nat.beq j id) Exit.normal (Exit.exit j)) p.1, p.2) s) = .ok p S' from hex)
  cases e2
  refine wpIn_block (wpIn_mono (h1 F n lf lo fr S p₁ S' ρ a w hF hnd hra hlo e1 hr hfr ht) fun e a' w' ⟨ρ₁, he, hs, hfr₁, ht₁⟩ => ?_)
  subst he
  obtain ⟨x, f⟩ := p₁
  cases x with
  | normal => exact ⟨ρ₁, rfl, hs, hfr₁, ht₁⟩
  | ret => exact ⟨ρ₁, rfl, hs, hfr₁, ht₁⟩
  | exit j =>
    by_cases hj : j = id
    · subst hj
      simp only [exitOf, Go.Exit.inBlock, if_true]
      refine ⟨ρ₁, ?_, hs, hfr₁, ht₁⟩
      show Go.Exit.normal = exitOf (bIf (Nat.beq j j) Exit.normal (Exit.exit j))
      rw [natBeq_eq]; simp [bIf, exitOf]
    · simp only [exitOf, Go.Exit.inBlock, hj, if_false]
      refine ⟨ρ₁, ?_, hs, hfr₁, ht₁⟩
      show Go.Exit.exit j = exitOf (bIf (Nat.beq j id) Exit.normal (Exit.exit j))
      rw [natBeq_eq]; simp [bIf, exitOf, hj]

theorem ok_loop {cf : CF} {N : Nat} {c : Code} {k : KCode} (h1 : CodeOk cx P cf N c k) : CodeOk cx P cf N (.loop c) (.loop k) := by
  intro F n lf lo fr S p S' ρ a w hF hnd hra hlo hex hr hfr ht
  have hex : iterN (exec cf lf k) lf fr S = .ok p S' := hex
  refine wpIn_loop_n (fun j a' w' => ∃ fr₁ S₁ ρ₁, iterN (exec cf lf k) j fr₁ S₁ = .ok p S' ∧ Sim (ccOf cx) ρ S w ρ₁ S₁ w' ∧ FrR lo N ρ₁ S₁ w' fr₁ a' ∧ Top S₁ ρ₁) lf ⟨fr, S, ρ, hex, Sim.refl hr, hfr, ht⟩ fun j a' w' ⟨fr₁, S₁, ρ₁, e1, hs, hfr₁, ht₁⟩ => ?_
  cases j with
  | zero => cases e1
  | succ j =>
    obtain ⟨p₁, S₂, e2, e3⟩ := resBind_ok (show resBind (exec cf lf k fr₁ S₁) (fun p s => exitSw p.1 (iterN (exec cf lf k) j p.2 s) (.ok p s)) = .ok p S' from e1)
    refine wpIn_mono (h1 F n lf lo fr₁ S₁ p₁ S₂ ρ₁ a' w' hF hnd (hra.sim hs) (Nat.le_trans hlo hs.frm.size) e2 hs.rel hfr₁ ht₁) fun e a'' w'' ⟨ρ₂, he, hs2, hfr₂, ht₂⟩ => ?_
    rcases exitSw_ok e3 with ⟨hn, e3⟩ | ⟨hn, e3⟩
    · rw [hn] at he
      subst he
      exact ⟨j, Nat.lt_succ_self j, p₁.2, S₂, ρ₂, e3, hs.trans hs2, hfr₂, ht₂⟩
    · cases e3
      subst he
      have : PostX (ccOf cx) lo N ρ S w p S' (exitOf p.1) a'' w'' := ⟨ρ₂, rfl, hs.trans hs2, hfr₂, ht₂⟩
      cases hp : p.1 with
      | normal => exact absurd hp hn
      | ret => rw [hp] at this; exact this
      | exit id => rw [hp] at this; exact this

end Go.K

namespace Go.K
variable {cx : Cx} {P : Program} {cf : CF} {fid N : Nat} {ops : Array Oper} {l : List KOper} {ws : List Nat} {T : Nat → Pt} {cc : CC} {ρ0 ρ : Rho} {S0 SD : St} {w0 w : World}

theorem inv_step (hcx : CxI P cx) (hcf : CFOk cc P cf) (h : RC cx cf fid N ops l ws T) (h0 : St0 l T ρ0 S0) {F : Fence} (hF : Wide F) (hnd : F.round = none ∨ ∀ ko ∈ l, notDefer ko = true) (n : Nat) {Q : Go.Exit → Act → World → Prop} {next : Act → World → Prop}
    {lo : Nat} {D : Nat → Bool} {a : Act} {q j : Nat} (hI : Inv cc N ops l ws T lo ρ0 S0 w0 D a w q ρ SD) (hr : Ready ops l ws D j) (hcl : ∀ i, D i = true → ∀ i', hasBit (optD 0 (lget (befores ops.toList []) i)) i' = true → D i' = true)
    (hnext : ∀ a' w' q' ρ' SD', Inv cc N ops l ws T lo ρ0 S0 w0 (addD D j) a' w' q' ρ' SD' → next a' w') : wpOpIn F n P ops Q j next a w := by
  obtain ⟨o, ko, c, ho, hj, hco, hk, hws⟩ := h.op j hr.lt
  unfold wpOpIn
  simp only [ho]
  have hnd' : F.round = none ∨ notDefer ko = true := hnd.imp id fun hh => hh ko (List.mem_of_getElem? hj)
  have hbd := hr.bounds h hI.hD hI.hq
  have hpt : q < l.length → ∃ ko, l[q]? = some ko ∧ isWr ko = true := fun hq => by
    rw [h.len] at hq
    obtain ⟨o', ko', c', k1, k2, k3, k4, k5⟩ := h.op q hq
    exact ⟨ko', k2, k5.2 (hI.hqw hq)⟩
  have hql : q ≤ l.length := by rw [h.len]; exact hI.hq
  have hfrq : FrR lo N ρ (T q).S w ⟨ED l T D ops.size, (T q).fr.defers⟩ a := ⟨hI.env, hI.size, hI.dfs.less fun _ _ h => h.sub hI.sub⟩
  have h00 : S0.next.toNat ≤ (T 0).S.next.toNat := by rw [h0.S]; show _ ≤ (skipN l S0.next).toNat; rw [skipN_toNat]; omega
  have htop : Top (T q).S ρ := fun id h1 => by
    rw [hI.ext id (.inr h1)]
    exact h0.top id (Nat.le_trans h00 (Nat.le_trans hI.nx0 h1))
  have stay : j ∉ ws → (∀ b, ¬ AlW l T j b) → step cf ko ⟨ED l T D ops.size, (T q).fr.defers⟩ (T q).S = .ok ⟨putD (ED l T D ops.size) (dstAt l j) (valAt l T j), (T q).fr.defers⟩ (T q).S →
      if Region.wanted o (yielded ops a.tmps) = true then o.wpIn F n P a w next Q else (∀ f, o.about P w a.eval = some f → F.fn f) ∧ next (a.put o.dst undef) w := fun hw ha hst =>
    step_sound hcx hcf hco hst (hI.mv.rel.sub hI.sub) hfrq (fun id h1 h2 => by omega) (fun _ => htop) hF hnd' n fun ρ' a' w' hs hfr => hnext a' w' q ρ' SD (hI.stay h hr hj hw ha hs hfr)
  have notw : isWr ko = false → j ∉ ws := fun hh hw => by rw [hws.2 hw] at hh; cases hh
  obtain ⟨v, hv⟩ := h.put hj
  have hval := putD_val hj hv (ED l T D ops.size)
  have unw : j ∉ ws → wanted (T j).fr.env ko.guard = false → (T (j + 1)).fr.env = putD (T j).fr.env ko.dst undefV →
      if Region.wanted o (yielded ops a.tmps) = true then o.wpIn F n P a w next Q else (∀ f, o.about P w a.eval = some f → F.fn f) ∧ next (a.put o.dst undef) w := fun hw hn he => by
    refine stay hw (fun b hb => ?_) ?_
    · obtain ⟨lo, hi, g, d, op, v, e1, hwt, _⟩ := hb
      rw [hj] at e1; cases e1
      rw [show wanted (T j).fr.env g = false from hn] at hwt; cases hwt
    · rw [step_no (cf := cf) (ds := (T q).fr.defers) (T q).S (by rw [hr.wanted h hj]; exact hn), putD_val hj he]
  have hstep := (h.run.step j ko hj).1
  cases hk with
  | pure ht =>
    rename_i g d op
    have hstep : K.step cf (.ev .pure g d op) (T j).fr (T j).S = .ok (T (j + 1)).fr (T (j + 1)).S := hstep
    rcases step_ev hstep with ⟨hwt, u, hev, hf⟩ | ⟨hwt, _, hf⟩
    · refine stay (notw rfl) (fun b hb => ?_) ?_
      · obtain ⟨lo, hi, g, d, op, v, e1, _⟩ := hb; rw [hj] at e1; cases e1
      · rcases pure_ev op (T j).fr.env ht with ⟨c, hp⟩ | ⟨u', hp⟩
        · rw [hp] at hev; cases hev
        · rw [hp] at hev
          injection hev with e1 e2
          subst e1
          rw [step_ev_mk (cf := cf) (v := u') (S' := (T q).S) (by have := hr.wanted h hj; rw [show (KOper.ev Cls.pure g d op).guard = g from rfl] at this; rw [this]; exact hwt) (by rw [← evalOp_congr op (hr.look h hj)]; exact hp _)]
          rw [← putD_val hj (show (T (j + 1)).fr.env = putD (T j).fr.env (KOper.ev Cls.pure g d op).dst u' by rw [hf]; rfl)]; rfl
    · exact unw (notw rfl) hwt (by rw [hf]; rfl)
  | read ht =>
    rename_i g d op
    cases hwt : wanted (T j).fr.env g with
    | true =>
      obtain ⟨u, hf, hev⟩ := h.run.read hql hpt hj ht hwt hbd.1 hbd.2
      refine stay (notw rfl) (fun b hb => ?_) ?_
      · obtain ⟨lo, hi, g, d, op, v, e1, _⟩ := hb; rw [hj] at e1; cases e1
      · rw [step_ev_mk (cf := cf) (v := u) (S' := (T q).S) (by have := hr.wanted h hj; rw [show ∀ c, (KOper.ev c g d op).guard = g from fun _ => rfl] at this; rw [this]; exact hwt) (by rw [← evalOp_congr op (hr.look h hj)]; exact hev)]
        rw [← putD_val hj (show (T (j + 1)).fr.env = putD (T j).fr.env (KOper.ev _ g d op).dst u by rw [hf]; rfl)]; rfl
    | false =>
      refine unw (notw rfl) hwt ?_
      have hstep : K.step cf (.ev (.read (countL (fun i => hasBit (optD 0 (lget (befores ops.toList []) j)) i) ws) (countL (fun i => bnot (hasBit (optD 0 (lget (befores ops.toList []) i)) j)) ws)) g d op) (T j).fr (T j).S = .ok (T (j + 1)).fr (T (j + 1)).S := hstep
      rcases step_ev hstep with ⟨hx, _⟩ | ⟨_, _, hf⟩
      · rw [hwt] at hx; cases hx
      · rw [hf]; rfl
  | alloc ht =>
    rename_i g d op
    have hquiet := (h.run.quiet hj (.alloc ht) rfl).2.2
    cases hwt : wanted (T j).fr.env g with
    | false =>
      refine unw (notw rfl) hwt ?_
      have hs : bIf (wanted (T j).fr.env g) (resBind (evalOp op (T j).fr.env ⟨(T j).S.heap, (T j).d.rid⟩) fun v s' => Res.ok (⟨putD (T j).fr.env d v, (T j).fr.defers⟩ : Fr) ⟨s'.heap, (T j).S.next⟩)
          (.ok ⟨putD (T j).fr.env d undefV, (T j).fr.defers⟩ (T j).S) = .ok (T (j + 1)).fr (T (j + 1)).S := hstep
      rw [hwt] at hs
      injection hs with h1 _
      rw [← h1]; rfl
    | true =>
      rcases hquiet with ⟨ha, _⟩ | ⟨_, hn, _⟩ | ⟨_, b, hb, _⟩
      · cases ha
      · rw [show wanted (T j).fr.env g = false from hn] at hwt; cases hwt
      · obtain ⟨lo', hi', g', d', op', u, e1, _, hev, hf⟩ := id hb
        rw [hj] at e1; cases e1
        have hblk := h.run.block hql hpt hj hb hbd.1 hbd.2
        have hst : K.step cf (.ev (.alloc (countL (fun i => hasBit (optD 0 (lget (befores ops.toList []) j)) i) ws) (countL (fun i => bnot (hasBit (optD 0 (lget (befores ops.toList []) i)) j)) ws)) g d op) ⟨ED l T D ops.size, (T q).fr.defers⟩ ⟨(T q).S.heap, (T j).d.rid⟩ =
            .ok ⟨putD (ED l T D ops.size) (dstAt l j) (valAt l T j), (T q).fr.defers⟩ ((⟨(T q).S.heap, (T j).d.rid⟩ : St).new b) := by
          rw [step_ev_mk (cf := cf) (v := u (T j).d.rid) (S' := (⟨(T q).S.heap, (T j).d.rid⟩ : St).new b) (by have := hr.wanted h hj; rw [show ∀ c, (KOper.ev c g d op).guard = g from fun _ => rfl] at this; rw [this]; exact hwt) (by rw [← evalOp_congr op (hr.look h hj)]; exact hev _)]
          rw [← putD_val hj (show (T (j + 1)).fr.env = putD (T j).fr.env (KOper.ev _ g d op).dst (u (T j).d.rid) by rw [hf]; rfl)]; rfl
        have hfree := hI.free j b hr.no hb
        have hfrP : FrR lo N ρ ⟨(T q).S.heap, (T j).d.rid⟩ w ⟨ED l T D ops.size, (T q).fr.defers⟩ a := ⟨hI.env, hI.size, hI.dfs.less fun _ _ h => h.sub hI.sub⟩
        refine step_sound hcx hcf hco hst (hI.mv.rel.sub fun id b h => hI.sub id b h) hfrP (fun id h1 h2 => ?_) (fun hx => by cases hx) hF hnd' n fun ρ' a' w' hs hfr => hnext a' w' q ρ' _ (hI.alloc h h0 hr hj (notw rfl) hb hblk.1 hblk.2 hs hfr)
        rw [St.next_new, Pa.toNat_succ] at h2
        have : id = (T j).d.rid := Pa.toNat_inj (by
          have h1 : (T j).d.rid.toNat ≤ id.toNat := h1
          have h2 : id.toNat < (T j).d.rid.toNat + 1 := h2
          omega)
        rw [this]; exact hfree
  | write hwr hna =>
    have hw := hws.1 hwr
    have hqj : q = j := by
      have h1 : ¬ j < q := fun hlt => by
        have := (hI.hD j hw).2 hlt
        rw [hr.no] at this; cases this
      by_cases e : q = j
      · exact e
      · have hlt : q < j := by omega
        have hqw := hI.hqw (Nat.lt_trans hlt hr.lt)
        have := (hI.hD q hqw).1 (hr.chain q hqw hw hlt)
        omega
    subst hqj
    have hstep : K.step cf ko (T q).fr (T q).S = .ok (T (q + 1)).fr (T (q + 1)).S := by
      unfold stepR at hstep
      rw [hna] at hstep; exact hstep
    obtain ⟨u, hu1, hu2⟩ := step_congr (env := (T q).fr.env) (env' := ED l T D ops.size) (ds := (T q).fr.defers) (hr.guard h hj) (hr.look h hj) hstep
    rw [putD_val hj hu1] at hu2
    have hfresh : Fresh (T q).S (T (q + 1)).S ρ := htop.fresh _
    refine step_sound hcx hcf hco hu2 (hI.mv.rel.sub hI.sub) hfrq hfresh (fun _ => htop) hF hnd' n fun ρ' a' w' hs hfr => ?_
    obtain ⟨q', SD', hI'⟩ := hI.write h h0 hr hj hcl hw hs (hs.le hfresh) hfr
    exact hnext a' w' q' ρ' SD' hI'

theorem count_set_false : ∀ (l : List Bool) (j : Nat), l[j]? = some false → (l.set j true).count false + 1 = l.count false
  | [], j, h => by simp at h
  | b :: l, 0, h => by simp at h; subst h; simp
  | b :: l, j + 1, h => by
    have := count_set_false l j (by simpa using h)
    rw [List.set_cons_succ, List.count_cons, List.count_cons]
    omega

theorem drawn_any (hcx : CxI P cx) (hcf : CFOk cc P cf) (h : RC cx cf fid N ops l ws T) (h0 : St0 l T ρ0 S0) {F : Fence} (hF : Wide F) (hnd : F.round = none ∨ ∀ ko ∈ l, notDefer ko = true) (n : Nat) {Q : Go.Exit → Act → World → Prop} {lo : Nat}
    (hQ : ∀ D a w q ρ SD, (∀ i, i < ops.size → D i = true) → Inv cc N ops l ws T lo ρ0 S0 w0 D a w q ρ SD → Q .normal a w) :
    ∀ (fuel : Nat) (listed : Array Bool) (a : Act) (w : World) (q : Nat) (ρ : Rho) (SD : St), listed.size = ops.size → listed.toList.count false = fuel →
      (∀ j, listed.getD j false = true → Cl ops.toList (fun i => listed.getD i false = true) j) → Inv cc N ops l ws T lo ρ0 S0 w0 (fun i => listed.getD i false) a w q ρ SD → wpAnyIn F n P .any ops Q fuel listed a w := by
  have hlt : ∀ (listed : Array Bool), listed.size = ops.size → ∀ i, listed.getD i false = true → i < ops.toList.length := fun listed hs i hi => by
    rcases Nat.lt_or_ge i listed.size with h1 | h1
    · simp; omega
    · simp [Array.getD_eq_getD_getElem?, Array.getElem?_eq_none h1] at hi
  have all : ∀ (listed : Array Bool), listed.size = ops.size → Region.ready .any ops listed = [] → ∀ i, i < ops.size → listed.getD i false = true := fun listed hs hnil i => by
    induction i using Nat.strongRecOn with
    | _ i ih =>
      intro hi
      by_cases hd : listed.getD i false = true
      · exact hd
      · have : i ∈ Region.ready .any ops listed := mem_ready.2 ⟨by
            have hi' : i < listed.size := by omega
            simp [Array.getD_eq_getD_getElem?, hi'] at hd ⊢; exact hd, ops[i], by simp [hi], fun e he hb => by
            have := h.edges i ops[i] e (by simp [hi]) (by simpa using he) hb
            exact ih e.on this (by omega)⟩
        rw [hnil] at this; cases this
  intro fuel
  induction fuel with
  | zero =>
    intro listed a w q ρ SD hs hc hcl hI
    have hall : ∀ i, i < ops.size → listed.getD i false = true := fun i hi => by
      have hi' : i < listed.size := by omega
      have hmem : listed[i] ∈ listed.toList := by simp
      have : false ∉ listed.toList := List.count_eq_zero.1 hc
      simp only [Array.getD_eq_getD_getElem?, Array.getElem?_eq_getElem hi', Option.getD_some]
      cases hb : listed[i] with
      | true => rfl
      | false => rw [hb] at hmem; exact absurd hmem this
    refine ⟨?_, hQ _ a w q ρ SD hall hI⟩
    apply List.eq_nil_iff_forall_not_mem.2
    intro j hj
    obtain ⟨h1, o, h2, _⟩ := mem_ready.1 hj
    have hj' : j < ops.size := (Array.getElem?_eq_some_iff.1 h2).1
    have := hall j hj'
    have hj'' : j < listed.size := by omega
    simp [Array.getD_eq_getD_getElem?, hj''] at h1 this
    rw [h1] at this; cases this
  | succ fuel ih =>
    intro listed a w q ρ SD hs hc hcl hI
    refine ⟨fun hnil => hQ _ a w q ρ SD (all listed hs hnil) hI, fun j hj => ?_⟩
    obtain ⟨h1, o, h2, h3⟩ := mem_ready.1 hj
    have hj' : j < ops.size := (Array.getElem?_eq_some_iff.1 h2).1
    have hj'' : j < listed.size := by omega
    have hno : listed.getD j false = false := by simp [Array.getD_eq_getD_getElem?, hj''] at h1 ⊢; exact h1
    have hclj : Cl ops.toList (fun i => listed.getD i false = true) j := fun o' ho' e he hb => by
      rw [Array.getElem?_toList, h2] at ho'
      cases ho'
      exact h3 e (by simpa using he) hb
    have hD : ∀ i, i < ops.toList.length → (fun i => listed.getD i false = true) i → Cl ops.toList (fun i => listed.getD i false = true) i := fun i _ hi => hcl i hi
    have hbits : ∀ i, listed.getD i false = true → ∀ i', hasBit (optD 0 (lget (befores ops.toList []) i)) i' = true → listed.getD i' false = true := fun i hi =>
      bef_done hD i (hlt listed hs i hi) (hlt listed hs) (hcl i hi)
    have hjt : j < ops.toList.length := by simpa using hj'
    have hready : Ready ops l ws (fun i => listed.getD i false) j := by
      refine ⟨hj', hno, bef_done hD j hjt (hlt listed hs) hclj, fun i hi hb => ?_, fun i hi hjw hij => chain_done hD (hlt listed hs) hjt hclj ws h.chain h.sorted i hi hjw hij⟩
      cases hx : listed.getD i false with
      | false => rfl
      | true => have := hbits i hx j hb; rw [hno] at this; cases this
    refine inv_step hcx hcf h h0 hF hnd n hI hready hbits fun a' w' q' ρ' SD' hI' => ?_
    have hset : ∀ i, (listed.setIfInBounds j true).getD i false = addD (fun i => listed.getD i false) j i := fun i => by
      unfold addD
      by_cases e : i = j
      · subst e; rw [if_pos rfl]; simp [Array.getD_eq_getD_getElem?, hj'']
      · rw [if_neg e]
        simp only [Array.getD_eq_getD_getElem?, Array.getElem?_setIfInBounds_ne (Ne.symm e)]
    refine ih (listed.setIfInBounds j true) a' w' q' ρ' SD' (by simp [hs]) ?_ (fun i hi => ?_) ?_
    · have h4 : listed.toList[j]? = some false := by
        rw [Array.getElem?_toList, Array.getElem?_eq_getElem hj'']
        simp [Array.getD_eq_getD_getElem?, hj''] at hno
        rw [hno]
      have := count_set_false listed.toList j h4
      rw [Array.toList_setIfInBounds]
      omega
    · intro o' ho' e he hb
      rw [hset]
      rw [hset] at hi
      have key : listed.getD e.on false = true → addD (fun i => listed.getD i false) j e.on = true := fun hh => by
        unfold addD
        split
        · rfl
        · exact hh
      unfold addD at hi
      split at hi
      · rename_i e'
        subst e'
        exact key (hclj o' ho' e he hb)
      · exact key (hcl i hi o' ho' e he hb)
    · have : (fun i => (listed.setIfInBounds j true).getD i false) = addD (fun i => listed.getD i false) j := funext hset
      rw [this]; exact hI'

end Go.K

namespace Go.K
open Go.MapKept (heap_set)
variable {cx : Cx} {P : Program} {cf : CF} {fid N : Nat} {ops : Array Oper} {w : World} {ρ : Rho} {S S' : St}

abbrev LitE := ETy × Pa × V × V

/-! the shape of a map's literal -/
structure LitPair (m : Pa) (a b : KOper) (p : LitE) : Prop where
  ex : ∃ c c' z ps, a = .ev c none (some p.2.1) (.build z ps) ∧ b = .ev c' none none (.mapUpdate p.1 (.t m) (.t p.2.1) (.c p.2.2.2)) ∧ tempsOf (KOp.build z ps).opds = [] ∧ ∃ s, evalOp (.build z ps) .nil S00 = .ok p.2.2.1 s

theorem litPair_ok {m : Pa} {a b : KOper} {p : LitE} (h : litPair m a b = some p) : LitPair m a b p := by
  unfold litPair at h
  split at h
  · rename_i c d z ps c' e m' d' v
    obtain ⟨hc, hb⟩ := bIf_none h
    clear h
    have hc : Pa.beq m' m = true ∧ Pa.beq d' d = true ∧ isNilL (tempsOf (KOp.build z ps).opds) = true := by simpa using hc
    obtain ⟨h1, h2, h3⟩ := hc
    have h1 := (Pa.beq_iff _ _).1 h1
    have h2 := (Pa.beq_iff _ _).1 h2
    subst h1; subst h2
    obtain ⟨k, hk, hb⟩ := obind_some hb
    obtain ⟨v', hv, hb⟩ := obind_some hb
    cases hb
    have hv' : v = .c v' := by
      cases v with
      | t i => cases hv
      | c u => cases hv; rfl
    subst hv'
    have ht : tempsOf (KOp.build z ps).opds = [] := by
      cases hx : tempsOf (KOp.build z ps).opds with
      | nil => rfl
      | cons _ _ => rw [hx] at h3; cases h3
    refine ⟨c, c', z, ps, rfl, rfl, ht, ?_⟩
    cases he : evalOp (.build z ps) .nil S00 with
    | ok u s => rw [he] at hk; cases hk; exact ⟨s, rfl⟩
    | err c => rw [he] at hk; cases hk
  · cases h

theorem litPairs_ok (m : Pa) : ∀ (l : List KOper) (ps : List LitE) (tl : List KOper), litPairs m l = (ps, tl) → (l.length = 2 * ps.length + tl.length ∧ ∀ (i : Nat) (p : LitE), ps[i]? = some p → ∃ a b, l[2 * i]? = some a ∧ l[2 * i + 1]? = some b ∧ LitPair m a b p) ∧ l.drop (2 * ps.length) = tl
  | [], ps, tl, h => by
    have h : (([] : List LitE), ([] : List KOper)) = (ps, tl) := h
    cases h; exact ⟨⟨rfl, fun i p hi => by simp at hi⟩, rfl⟩
  | [a], ps, tl, h => by
    have h : (([] : List LitE), [a]) = (ps, tl) := h
    cases h; exact ⟨⟨rfl, fun i p hi => by simp at hi⟩, rfl⟩
  | a :: b :: l, ps, tl, h => by
    rw [litPairs] at h
    cases hp : litPair m a b with
    | none =>
      rw [hp] at h
      cases h
      exact ⟨⟨by simp, fun i p hi => by simp at hi⟩, rfl⟩
    | some p =>
      rw [hp] at h
      dsimp only at h
      obtain ⟨⟨h1, h2⟩, h3⟩ := litPairs_ok m l _ _ (rfl : litPairs m l = ((litPairs m l).1, (litPairs m l).2))
      cases h
      refine ⟨⟨by simp [h1]; omega, fun i q hi => ?_⟩, ?_⟩
      · cases i with
        | zero => simp at hi; subst hi; exact ⟨a, b, rfl, rfl, litPair_ok hp⟩
        | succ i =>
          obtain ⟨x, y, g1, g2, g3⟩ := h2 i q (by simpa using hi)
          exact ⟨x, y, by rw [show 2 * (i + 1) = 2 * i + 1 + 1 by omega]; simpa using g1, by rw [show 2 * (i + 1) + 1 = 2 * i + 1 + 1 + 1 by omega]; simpa using g2, g3⟩
      · rw [List.length_cons, show 2 * ((litPairs m l).1.length + 1) = 2 * (litPairs m l).1.length + 1 + 1 by omega, List.drop_succ_cons, List.drop_succ_cons]
        exact h3

theorem tailOk_ok (bef : List Nat) : ∀ (l : List KOper) (k j : Nat), tailOk bef l k = true → j < l.length → ∀ i, i < k + j → hasBit (optD 0 (lget bef (k + j))) i = true
  | [], k, j, _, hj => by simp at hj
  | a :: l, k, j, h, hj => by
    have h : bIf (Nat.beq (optD 0 (lget bef k)) (Nat.sub (Nat.pow 2 k) 1)) (tailOk bef l (k + 1)) false = true := h
    rw [bIf_eq] at h
    split at h
    · rename_i hb
      intro i hi
      cases j with
      | zero =>
        have hb := Nat.eq_of_beq_eq_true hb
        rw [Nat.add_zero, hb, hasBit_eq]
        show (2 ^ k - 1).testBit i = true
        rw [Nat.testBit_two_pow_sub_one]
        exact decide_eq_true hi
      | succ j =>
        rw [show k + (j + 1) = k + 1 + j by omega] at hi ⊢
        exact tailOk_ok bef l (k + 1) j h (by simpa using hj) i hi
    · cases h

structure Unlike (p q : LitE) : Prop where
  ne : p.2.1 ≠ q.2.1
  l : eqV S00 p.1 p.2.2.1 q.2.2.1 = some false
  r : eqV S00 q.1 q.2.2.1 p.2.2.1 = some false

theorem isNo_iff {x : Option Bool} (h : isNo x = true) : x = some false := by
  cases x with
  | none => cases h
  | some b => cases b <;> first | rfl | cases h

theorem litUnlike_ok {p q : LitE} (h : litUnlike p q = true) : Unlike p q := by
  unfold litUnlike at h
  have h : bnot (Pa.beq p.2.1 q.2.1) = true ∧ isNo (eqV S00 p.1 p.2.2.1 q.2.2.1) = true ∧ isNo (eqV S00 q.1 q.2.2.1 p.2.2.1) = true := by simpa using h
  exact ⟨fun e => (by rw [(Pa.beq_iff _ _).2 e] at h; cases h.1), isNo_iff h.2.1, isNo_iff h.2.2⟩

structure LitOk (bef : List Nat) (m : Pa) (ps : List LitE) : Prop where
  m0 : ∀ (i : Nat) (p : LitE), ps[i]? = some p → hasBit (optD 0 (lget bef (2 * i + 2))) 0 = true
  pre : ∀ (i : Nat) (p : LitE), ps[i]? = some p → hasBit (optD 0 (lget bef (2 * i + 2))) (2 * i + 1) = true
  fits : ∀ (i : Nat) (p : LitE), ps[i]? = some p → keyFits p.1 p.2.2.1 = true
  nem : ∀ (i : Nat) (p : LitE), ps[i]? = some p → p.2.1 ≠ m
  un : ∀ (i j : Nat) (p q : LitE), j < i → ps[i]? = some p → ps[j]? = some q → Unlike p q

theorem litOk_ok (bef : List Nat) (m : Pa) : ∀ (ps : List LitE) (j : Nat) (prev : List LitE), litOk bef m ps j prev = true →
    (∀ (i : Nat) (p : LitE), ps[i]? = some p → hasBit (optD 0 (lget bef (j + 2 * i + 1))) 0 = true ∧ hasBit (optD 0 (lget bef (j + 2 * i + 1))) (j + 2 * i) = true ∧ keyFits p.1 p.2.2.1 = true ∧ p.2.1 ≠ m ∧ ∀ q ∈ prev, Unlike p q) ∧
    (∀ (i j : Nat) (p q : LitE), j < i → ps[i]? = some p → ps[j]? = some q → Unlike p q)
  | [], j, prev, _ => ⟨fun i p hi => by simp at hi, fun i j p q _ hi => by simp at hi⟩
  | p :: r, j, prev, h => by
    have h : band (band (hasBit (optD 0 (lget bef (Nat.succ j))) 0) (hasBit (optD 0 (lget bef (Nat.succ j))) j)) (band (keyFits p.1 p.2.2.1) (band (bnot (Pa.beq p.2.1 m)) (band (lall (litUnlike p) prev) (litOk bef m r (Nat.add j 2) (p :: prev))))) = true := h
    simp only [band_eq, Bool.and_eq_true] at h
    obtain ⟨⟨h1, h2⟩, h3, h4, h5, h6⟩ := h
    obtain ⟨g1, g2⟩ := litOk_ok bef m r (j + 2) (p :: prev) h6
    refine ⟨fun i q hi => ?_, fun i i' q q' hlt hi hi' => ?_⟩
    · cases i with
      | zero =>
        simp at hi; subst hi
        refine ⟨h1, h2, h3, fun e => ?_, fun q hq => litUnlike_ok ((lall_iff _ _).1 h5 q hq)⟩
        rw [(Pa.beq_iff _ _).2 e] at h4; cases h4
      | succ i =>
        obtain ⟨k1, k2, k3, k4, k5⟩ := g1 i q (by simpa using hi)
        rw [show j + 2 * (i + 1) = j + 2 + 2 * i by omega]
        exact ⟨k1, k2, k3, k4, fun q' hq' => k5 q' (by simp [hq'])⟩
    · cases i with
      | zero => omega
      | succ i =>
        cases i' with
        | zero =>
          simp at hi'; subst hi'
          exact (g1 i q (by simpa using hi)).2.2.2.2 _ (by simp)
        | succ i' => exact g2 i i' q q' (by omega) (by simpa using hi) (by simpa using hi')

theorem cMapLit_ok {l : List KOper} {k : KCode} (h : cMapLit ops.toList (befores ops.toList []) l = some k) :
    ∃ m ps rest tl c, l = .ev c none (some m) .mkMap :: rest ∧ litPairs m rest = (ps, tl) ∧ edgesOk ops.toList 0 = true ∧ LitOk (befores ops.toList []) m ps ∧ tailOk (befores ops.toList []) tl (2 * ps.length + 1) = true ∧
      k = .seq (.mapLit m (ps.map fun p => p.2)) (.region tl) := by
  unfold cMapLit at h
  split at h
  · rename_i c m rest
    obtain ⟨hc, h⟩ := bIf_none h
    cases h
    have hc : edgesOk ops.toList 0 = true ∧ litOk (befores ops.toList []) m (litPairs m rest).1 1 [] = true ∧ tailOk (befores ops.toList []) (litPairs m rest).2 (Nat.succ (Nat.mul 2 (llen (litPairs m rest).1))) = true := by simpa using hc
    obtain ⟨g1, g2⟩ := litOk_ok _ m (litPairs m rest).1 1 [] hc.2.1
    refine ⟨m, (litPairs m rest).1, rest, (litPairs m rest).2, c, rfl, rfl, hc.1, ⟨fun i p hi => ?_, fun i p hi => ?_, fun i p hi => (g1 i p hi).2.2.1, fun i p hi => (g1 i p hi).2.2.2.1, g2⟩, ?_, by rw [lmap_eq]⟩
    · have := (g1 i p hi).1; rw [show 1 + 2 * i + 1 = 2 * i + 2 by omega] at this; exact this
    · have := (g1 i p hi).2.1; rw [show 1 + 2 * i + 1 = 2 * i + 2 by omega, show 1 + 2 * i = 2 * i + 1 by omega] at this; exact this
    · have := hc.2.2
      rw [llen_eq] at this
      exact this
  · cases h

/-! where an order stands -/
/-- the temporaries that are set -/
noncomputable def litED (m : Pa) (id : Pa) (D : Nat → Bool) (ps : List LitE) (env : Env) : Nat → Env
  | 0 => if D 0 = true then Tr.set (some (.map id)) env m else env
  | n + 1 => match ps[n]? with
    | some p => if D (2 * n + 1) = true then Tr.set (some p.2.2.1) (litED m id D ps env n) p.2.1 else litED m id D ps env n
    | none => litED m id D ps env n

/-- the entries that are in -/
def litIn (D : Nat → Bool) (ps : List LitE) : Nat → List Ent
  | 0 => []
  | n + 1 => match ps[n]? with
    | some p => if D (2 * n + 2) = true then litIn D ps n ++ [⟨p.2.2.1, p.2.2.2, 0⟩] else litIn D ps n
    | none => litIn D ps n

theorem envAt_set' (env : Env) (d : Pa) (v : V) (t : Pa) : envAt (Tr.set (some v) env d) t = if d = t then v else envAt env t := by
  have := envAt_putD env (some d) v t
  simpa [putD] using this

structure LInv (cc : CC) (N : Nat) (m : Pa) (ps : List LitE) (lo : Nat) (ρ0 : Rho) (S0 : St) (w0 : World) (env : Env) (ds : List (V × List V)) (D : Nat → Bool) (a : Act) (w : World) : Prop where
  ex : ∃ ρ SD, Sim cc ρ0 S0 w0 ρ SD w ∧ a.tmps.size = N ∧ EnvR ρ (litED m S0.next D ps env ps.length) a.tmps ∧ DefR lo ρ SD w ds a.defers ∧
    (D 0 = false → (∀ i, i < ps.length → D (2 * i + 2) = false) ∧ SD = S0) ∧
    (D 0 = true → SD.next = S0.next.succ ∧ ∀ id, SD.get id = if S0.next = id then some (.bag (litIn D ps ps.length)) else S0.get id)

theorem litED_add_out {m id : Pa} {D : Nat → Bool} {ps : List LitE} {env : Env} {j : Nat} (hj : ∀ i, i < ps.length → j ≠ 2 * i + 1) (hj0 : j ≠ 0) : ∀ n, litED m id (addD D j) ps env n = litED m id D ps env n := by
  intro n
  induction n with
  | zero => unfold litED addD; rw [if_neg (c := 0 = j) (by omega)]
  | succ n ih =>
    unfold litED
    cases hp : ps[n]? with
    | none => exact ih
    | some p =>
      have hlt : n < ps.length := (List.getElem?_eq_some_iff.1 hp).1
      simp only [ih]
      unfold addD
      rw [if_neg (c := 2 * n + 1 = j) (fun e => hj n hlt e.symm)]

theorem litIn_add_out {D : Nat → Bool} {ps : List LitE} {j : Nat} (hj : ∀ i, i < ps.length → j ≠ 2 * i + 2) : ∀ n, litIn (addD D j) ps n = litIn D ps n := by
  intro n
  induction n with
  | zero => rfl
  | succ n ih =>
    unfold litIn
    cases hp : ps[n]? with
    | none => exact ih
    | some p =>
      have hlt : n < ps.length := (List.getElem?_eq_some_iff.1 hp).1
      simp only [ih]
      unfold addD
      rw [if_neg (c := 2 * n + 2 = j) (fun e => hj n hlt e.symm)]

/-- the temporaries, pointwise -/
theorem litED_at {m id : Pa} {D : Nat → Bool} {ps : List LitE} {env : Env} {bef : List Nat} (hok : LitOk bef m ps) (t : Pa) : ∀ n, n ≤ ps.length →
    (∀ (i : Nat) (p : LitE), i < n → ps[i]? = some p → p.2.1 = t → envAt (litED m id D ps env n) t = if D (2 * i + 1) = true then p.2.2.1 else envAt env t) ∧
    ((∀ (i : Nat) (p : LitE), i < n → ps[i]? = some p → p.2.1 ≠ t) → envAt (litED m id D ps env n) t = if m = t ∧ D 0 = true then .map id else envAt env t) := by
  intro n
  induction n with
  | zero =>
    intro _
    refine ⟨fun i p hi => by omega, fun _ => ?_⟩
    unfold litED
    split
    · rename_i h0
      rw [envAt_set']
      simp [h0]
    · rename_i h0
      simp [h0]
  | succ n ih =>
    intro hn
    obtain ⟨h1, h2⟩ := ih (by omega)
    obtain ⟨q, hq⟩ : ∃ q, ps[n]? = some q := ⟨_, List.getElem?_eq_getElem hn⟩
    have e : litED m id D ps env (n + 1) = if D (2 * n + 1) = true then Tr.set (some q.2.2.1) (litED m id D ps env n) q.2.1 else litED m id D ps env n := by
      rw [litED, hq]
    rw [e]
    refine ⟨fun i p hi hp hpt => ?_, fun hno => ?_⟩
    · by_cases hin : i = n
      · subst hin
        rw [hq] at hp; cases hp
        have hprev : envAt (litED m id D ps env i) t = envAt env t := by
          rw [h2 fun j p hj hp e => (hok.un i j q p hj hq hp).ne (by rw [hpt, e])]
          rw [if_neg]
          rintro ⟨e, _⟩
          exact hok.nem i q hq (by rw [hpt, e])
        split
        · rw [envAt_set', if_pos hpt]
        · exact hprev
      · have hne : q.2.1 ≠ t := fun e => (hok.un n i q p (by omega) hq hp).ne (by rw [e, hpt])
        have := h1 i p (by omega) hp hpt
        split
        · rw [envAt_set', if_neg hne]; exact this
        · exact this
    · have hne : q.2.1 ≠ t := hno n q (by omega) hq
      have := h2 fun i p hi => hno i p (by omega)
      split
      · rw [envAt_set', if_neg hne]; exact this
      · exact this

end Go.K

namespace Go.K
variable {cx : Cx} {P : Program} {cf : CF} {fid N : Nat} {ops : Array Oper} {w w' w0 : World} {ρ ρ' ρ0 : Rho} {S S' S0 D' : St} {cc : CC}

theorem lall_idx : ∀ (l : List Oper) (k : Nat), edgesOk l k = true → ∀ j o e, l[j]? = some o → e ∈ o.after.toList → Region.binds .any e = true → e.on < k + j
  | [], k, h, j, o, e, hj, _, _ => by simp at hj
  | b :: l, k, h, j, o, e, hj, he, hb => by
    have h : bIf (lall (edgeOk k) b.after.toList) (edgesOk l (k + 1)) false = true := h
    rw [bIf_eq] at h
    split at h
    · rename_i hc
      cases j with
      | zero =>
        simp at hj; subst hj
        have := (lall_iff _ _).1 hc e he
        unfold edgeOk at this
        rw [hb] at this
        exact Nat.le_of_ble_eq_true this
      | succ j =>
        have := lall_idx l (k + 1) h j o e (by simpa using hj) he hb
        omega
    · cases h

/-- any order -/
theorem any_order (hedges : ∀ j o e, ops[j]? = some o → e ∈ o.after.toList → Region.binds .any e = true → e.on < j) {F : Fence} {n : Nat} {Q : Go.Exit → Act → World → Prop} (J : (Nat → Bool) → Act → World → Prop)
    (hstep : ∀ D a w j, J D a w → j < ops.size → D j = false → (∀ i, hasBit (optD 0 (lget (befores ops.toList []) j)) i = true → D i = true) → ∀ next : Act → World → Prop, (∀ a' w', J (addD D j) a' w' → next a' w') → wpOpIn F n P ops Q j next a w)
    (hfin : ∀ D a w, (∀ i, i < ops.size → D i = true) → J D a w → Q .normal a w) :
    ∀ (fuel : Nat) (listed : Array Bool) (a : Act) (w : World), listed.size = ops.size → listed.toList.count false = fuel →
      (∀ j, listed.getD j false = true → Cl ops.toList (fun i => listed.getD i false = true) j) → J (fun i => listed.getD i false) a w → wpAnyIn F n P .any ops Q fuel listed a w := by
  have hlt : ∀ (listed : Array Bool), listed.size = ops.size → ∀ i, listed.getD i false = true → i < ops.toList.length := fun listed hs i hi => by
    rcases Nat.lt_or_ge i listed.size with h1 | h1
    · simp; omega
    · simp [Array.getD_eq_getD_getElem?, Array.getElem?_eq_none h1] at hi
  have all : ∀ (listed : Array Bool), listed.size = ops.size → Region.ready .any ops listed = [] → ∀ i, i < ops.size → listed.getD i false = true := fun listed hs hnil i => by
    induction i using Nat.strongRecOn with
    | _ i ih =>
      intro hi
      by_cases hd : listed.getD i false = true
      · exact hd
      · have : i ∈ Region.ready .any ops listed := mem_ready.2 ⟨by
            have hi' : i < listed.size := by omega
            simp [Array.getD_eq_getD_getElem?, hi'] at hd ⊢; exact hd, ops[i], by simp [hi], fun e he hb => by
            have := hedges i ops[i] e (by simp [hi]) (by simpa using he) hb
            exact ih e.on this (by omega)⟩
        rw [hnil] at this; cases this
  intro fuel
  induction fuel with
  | zero =>
    intro listed a w hs hc hcl hI
    have hall : ∀ i, i < ops.size → listed.getD i false = true := fun i hi => by
      have hi' : i < listed.size := by omega
      have hmem : listed[i] ∈ listed.toList := by simp
      have : false ∉ listed.toList := List.count_eq_zero.1 hc
      simp only [Array.getD_eq_getD_getElem?, Array.getElem?_eq_getElem hi', Option.getD_some]
      cases hb : listed[i] with
      | true => rfl
      | false => rw [hb] at hmem; exact absurd hmem this
    refine ⟨?_, hfin _ a w hall hI⟩
    apply List.eq_nil_iff_forall_not_mem.2
    intro j hj
    obtain ⟨h1, o, h2, _⟩ := mem_ready.1 hj
    have hj' : j < ops.size := (Array.getElem?_eq_some_iff.1 h2).1
    have := hall j hj'
    have hj'' : j < listed.size := by omega
    simp [Array.getD_eq_getD_getElem?, hj''] at h1 this
    rw [h1] at this; cases this
  | succ fuel ih =>
    intro listed a w hs hc hcl hI
    refine ⟨fun hnil => hfin _ a w (all listed hs hnil) hI, fun j hj => ?_⟩
    obtain ⟨h1, o, h2, h3⟩ := mem_ready.1 hj
    have hj' : j < ops.size := (Array.getElem?_eq_some_iff.1 h2).1
    have hj'' : j < listed.size := by omega
    have hno : listed.getD j false = false := by simp [Array.getD_eq_getD_getElem?, hj''] at h1 ⊢; exact h1
    have hclj : Cl ops.toList (fun i => listed.getD i false = true) j := fun o' ho' e he hb => by
      rw [Array.getElem?_toList, h2] at ho'
      cases ho'
      exact h3 e (by simpa using he) hb
    have hD : ∀ i, i < ops.toList.length → (fun i => listed.getD i false = true) i → Cl ops.toList (fun i => listed.getD i false = true) i := fun i _ hi => hcl i hi
    have hjt : j < ops.toList.length := by simpa using hj'
    refine hstep _ a w j hI hj' hno (bef_done hD j hjt (hlt listed hs) hclj) _ fun a' w' hI' => ?_
    have hset : ∀ i, (listed.setIfInBounds j true).getD i false = addD (fun i => listed.getD i false) j i := fun i => by
      unfold addD
      by_cases e : i = j
      · subst e; rw [if_pos rfl]; simp [Array.getD_eq_getD_getElem?, hj'']
      · rw [if_neg e]
        simp only [Array.getD_eq_getD_getElem?, Array.getElem?_setIfInBounds_ne (Ne.symm e)]
    refine ih (listed.setIfInBounds j true) a' w' (by simp [hs]) ?_ (fun i hi => ?_) ?_
    · have h4 : listed.toList[j]? = some false := by
        rw [Array.getElem?_toList, Array.getElem?_eq_getElem hj'']
        simp [Array.getD_eq_getD_getElem?, hj''] at hno
        rw [hno]
      have := count_set_false listed.toList j h4
      rw [Array.toList_setIfInBounds]
      omega
    · intro o' ho' e he hb
      rw [hset]
      rw [hset] at hi
      have key : listed.getD e.on false = true → addD (fun i => listed.getD i false) j e.on = true := fun hh => by
        unfold addD
        split
        · rfl
        · exact hh
      unfold addD at hi
      split at hi
      · rename_i e'
        subst e'
        exact key (hclj o' ho' e he hb)
      · exact key (hcl i hi o' ho' e he hb)
    · have : (fun i => (listed.setIfInBounds j true).getD i false) = addD (fun i => listed.getD i false) j := funext hset
      rw [this]; exact hI'

/-- a block seen otherwise -/
theorem Sim.alter (h : Sim cc ρ S w ρ' S' w') (hn : D'.next = S'.next) (hD : ∀ id L b, ρ' id = some L → D'.get id = some b → S'.get id = some b ∨ ∃ b0, S'.get id = some b0 ∧ b0.isCells = false ∧ BlkR cc ρ' L b w') : Sim cc ρ S w ρ' D' w' := by
  have live : ∀ id L b, ρ' id = some L → D'.get id = some b → ∃ b0, S'.get id = some b0 ∧ (b0.isCells = true → b.isCells = true) := fun id L b h1 h2 => by
    rcases hD id L b h1 h2 with g | ⟨b0, g1, g2, _⟩
    · exact ⟨b, g, fun h => h⟩
    · exact ⟨b0, g1, fun h => by rw [g2] at h; cases h⟩
  refine ⟨by rw [hn]; exact h.next, by rw [hn]; exact h.ext, ⟨fun id L b h1 h2 => ?_, fun id id' L L' b b' hne h1 h2 h3 h4 => ?_⟩, h.frm, fun blk o ⟨id, L, b, h1, h2, h3, h4⟩ => ?_, fun blk ⟨id, L, b, h1, h2, h3⟩ => ?_⟩
  · rcases hD id L b h1 h2 with g | ⟨b0, g1, g2, g3⟩
    · exact h.rel.blk id L b h1 g
    · exact g3
  · obtain ⟨b0, g1, _⟩ := live id L b h1 h3
    obtain ⟨b0', g1', _⟩ := live id' L' b' h2 h4
    exact h.rel.apart id id' L L' b0 b0' hne h1 h2 g1 g1'
  · obtain ⟨b0, g1, g2⟩ := live id L b h1 h2
    exact h.shr blk o ⟨id, L, b0, h1, g1, h3, fun hc => h4 (g2 hc)⟩
  · obtain ⟨b0, g1, _⟩ := live id L b h1 h2
    exact h.blks blk ⟨id, L, b0, h1, g1, h3⟩

theorem eqLeaf_S00 {e : ETy} {u v : V} {b : Bool} (h : eqLeaf S00 e u v = some b) (S : St) : eqLeaf S e u v = some b := by
  cases e with
  | ptr =>
    have h : eqPtr S00 u v = some b := h
    show eqPtr S u v = some b
    cases u with
    | nilptr => exact h
    | ptr p i =>
      cases v with
      | ptr q j =>
        exfalso
        have h : bIf (band (S00.live p) (S00.live q)) (some (band (Pa.beq p q) (Nat.beq i j))) none = some b := h
        have hl : S00.live p = false := by
          unfold St.live
          have : S00.get p = none := get_nil p
          rw [this]
        rw [hl] at h
        cases h
      | _ => exact h
    | _ => exact h
  | _ => exact h

theorem eqCells_S00 : ∀ (l : List ETy) (xs ys : List V) (b : Bool), eqCells S00 l xs ys = some b → ∀ S, eqCells S l xs ys = some b
  | [], xs, ys, b, h, S => by
    obtain ⟨rfl, rfl, rfl⟩ := eqCells_nil h; rfl
  | e :: l, [], ys, b, h, S => by cases h
  | e :: l, x :: xs, [], b, h, S => by cases h
  | e :: l, x :: xs, y :: ys, b, h, S => by
    rw [eqCells_cons] at h ⊢
    obtain ⟨c, hc, h⟩ := obind_some h
    rw [eqLeaf_S00 hc S]
    cases c with
    | false => exact h
    | true => exact eqCells_S00 l xs ys b h S

theorem eqV_S00 {e : ETy} {u v : V} {b : Bool} (h : eqV S00 e u v = some b) (S : St) : eqV S e u v = some b := by
  by_cases hc : ∃ l, e = .cells l
  · obtain ⟨l, rfl⟩ := hc
    cases u with
    | agg xs =>
      cases v with
      | agg ys => exact eqCells_S00 l xs ys b h S
      | _ => cases h
    | _ => cases h
  · have hne : ∀ l, e ≠ .cells l := fun l hl => hc ⟨l, hl⟩
    rw [eqV_leaf hne] at h ⊢
    exact eqLeaf_S00 h S

theorem litIn_none {D : Nat → Bool} {ps : List LitE} : ∀ n, (∀ i, i < n → D (2 * i + 2) = false) → litIn D ps n = [] := by
  intro n
  induction n with
  | zero => intro _; rfl
  | succ n ih =>
    intro h
    unfold litIn
    rw [ih fun i hi => h i (by omega), h n (by omega)]
    cases ps[n]? <;> simp

theorem litIn_mem {D : Nat → Bool} {ps : List LitE} : ∀ n x, x ∈ litIn D ps n → ∃ i q, i < n ∧ ps[i]? = some q ∧ D (2 * i + 2) = true ∧ x = ⟨q.2.2.1, q.2.2.2, 0⟩ := by
  intro n
  induction n with
  | zero => intro x hx; cases hx
  | succ n ih =>
    intro x hx
    unfold litIn at hx
    cases hp : ps[n]? with
    | none =>
      rw [hp] at hx
      obtain ⟨i, q, h1, h2⟩ := ih x hx
      exact ⟨i, q, by omega, h2⟩
    | some p =>
      rw [hp] at hx
      dsimp only at hx
      split at hx
      · rename_i hD
        rcases List.mem_append.1 hx with hx | hx
        · obtain ⟨i, q, h1, h2⟩ := ih x hx
          exact ⟨i, q, by omega, h2⟩
        · simp at hx
          exact ⟨n, p, by omega, hp, hD, hx⟩
      · obtain ⟨i, q, h1, h2⟩ := ih x hx
        exact ⟨i, q, by omega, h2⟩

theorem litIn_add {D : Nat → Bool} {ps : List LitE} {i : Nat} {p : LitE} (hp : ps[i]? = some p) (hD : D (2 * i + 2) = false) : ∀ n, i < n → (litIn (addD D (2 * i + 2)) ps n).Perm (litIn D ps n ++ [⟨p.2.2.1, p.2.2.2, 0⟩]) := by
  intro n
  induction n with
  | zero => intro h; omega
  | succ n ih =>
    intro hlt
    by_cases e : i = n
    · subst e
      have hlo : ∀ k, k ≤ i → litIn (addD D (2 * i + 2)) ps k = litIn D ps k := by
        intro k
        induction k with
        | zero => intro _; rfl
        | succ k ihk =>
          intro hk
          unfold litIn
          rw [ihk (by omega)]
          have : addD D (2 * i + 2) (2 * k + 2) = D (2 * k + 2) := by unfold addD; rw [if_neg (by omega)]
          rw [this]
      have e1 : litIn (addD D (2 * i + 2)) ps (i + 1) = litIn D ps i ++ [⟨p.2.2.1, p.2.2.2, 0⟩] := by
        rw [litIn, hp]
        dsimp only
        rw [if_pos (by unfold addD; rw [if_pos rfl]), hlo i (Nat.le_refl _)]
      have e2 : litIn D ps (i + 1) = litIn D ps i := by
        rw [litIn, hp]
        dsimp only
        rw [if_neg (by rw [hD]; simp)]
      rw [e1, e2]
    · have ih := ih (by omega)
      have e0 : addD D (2 * i + 2) (2 * n + 2) = D (2 * n + 2) := by unfold addD; rw [if_neg (by omega)]
      rw [litIn, litIn]
      cases hq : ps[n]? with
      | none => exact ih
      | some q =>
        dsimp only
        rw [e0]
        split
        · refine (ih.append_right _).trans ?_
          rw [List.append_assoc, List.append_assoc]
          exact List.Perm.append_left _ (List.perm_append_comm)
        · exact ih

end Go.K

namespace Go.K
variable {cx : Cx} {P : Program} {cf : CF} {fid N : Nat} {ops : Array Oper} {w w' w0 : World} {ρ ρ' ρ0 : Rho} {S S' S0 D' : St} {cc : CC}

theorem look_const {env : Env} {v : V} : env.look (.c v) = v := rfl
theorem look_tmp {env : Env} {t : Pa} : env.look (.t t) = envAt env t := rfl

theorem tempsOf_nil {L : List Opd} (h : tempsOf L = []) : ∀ x ∈ L, ∃ v, x = .c v := by
  induction L with
  | nil => intro x hx; cases hx
  | cons a L ih =>
    intro x hx
    cases a with
    | t i => cases h
    | c v =>
      rcases List.mem_cons.1 hx with rfl | hx
      · exact ⟨v, rfl⟩
      · exact ih h x hx

theorem build_const {z : List V} {ps : List (Nat × Nat × Opd)} {v : V} {s : St} (ht : tempsOf (KOp.build z ps).opds = []) (h : evalOp (.build z ps) .nil S00 = .ok v s) (env : Env) (S : St) : evalOp (.build z ps) env S = .ok v S := by
  rw [evalOp_congr (env := env) (env' := .nil) (.build z ps) fun x hx => by obtain ⟨u, rfl⟩ := tempsOf_nil ht x hx; rfl]
  rcases pure_ev (.build z ps) .nil rfl with ⟨c, hp⟩ | ⟨u, hp⟩
  · rw [hp] at h; cases h
  · rw [hp] at h ⊢; cases h; rfl

theorem litED_m {m id : Pa} {D : Nat → Bool} {ps : List LitE} {env : Env} {bef : List Nat} (hok : LitOk bef m ps) (h0 : D 0 = true) : envAt (litED m id D ps env ps.length) m = .map id := by
  rw [(litED_at (id := id) (D := D) (env := env) hok m ps.length (Nat.le_refl _)).2 fun i p _ hp => hok.nem i p hp, if_pos ⟨rfl, h0⟩]

theorem litED_d {m id : Pa} {D : Nat → Bool} {ps : List LitE} {env : Env} {bef : List Nat} (hok : LitOk bef m ps) {i : Nat} {p : LitE} (hp : ps[i]? = some p) (h1 : D (2 * i + 1) = true) : envAt (litED m id D ps env ps.length) p.2.1 = p.2.2.1 := by
  rw [(litED_at (id := id) (D := D) (env := env) hok p.2.1 ps.length (Nat.le_refl _)).1 i p (List.getElem?_eq_some_iff.1 hp).1 hp rfl, if_pos h1]

theorem litED_addm {m id : Pa} {D : Nat → Bool} {ps : List LitE} {env : Env} {bef : List Nat} (hok : LitOk bef m ps) (t : Pa) :
    envAt (litED m id (addD D 0) ps env ps.length) t = envAt (Tr.set (some (.map id)) (litED m id D ps env ps.length) m) t := by
  rw [envAt_set']
  obtain ⟨a1, a2⟩ := litED_at (id := id) (D := addD D 0) (env := env) hok t ps.length (Nat.le_refl _)
  obtain ⟨b1, b2⟩ := litED_at (id := id) (D := D) (env := env) hok t ps.length (Nat.le_refl _)
  by_cases hx : ∃ (i : Nat) (p : LitE), ps[i]? = some p ∧ p.2.1 = t
  · obtain ⟨i, p, hp, ht⟩ := hx
    have hlt := (List.getElem?_eq_some_iff.1 hp).1
    have hne : m ≠ t := fun e => hok.nem i p hp (by rw [ht, e])
    rw [a1 i p hlt hp ht, b1 i p hlt hp ht, if_neg hne]
    have : addD D 0 (2 * i + 1) = D (2 * i + 1) := by unfold addD; rw [if_neg (by omega)]
    rw [this]
  · have hno : ∀ (i : Nat) (p : LitE), i < ps.length → ps[i]? = some p → p.2.1 ≠ t := fun i p _ hp e => hx ⟨i, p, hp, e⟩
    rw [a2 hno, b2 hno]
    have : addD D 0 0 = true := by unfold addD; rw [if_pos rfl]
    rw [this]
    by_cases hm : m = t
    · rw [if_pos ⟨hm, rfl⟩, if_pos hm]
    · rw [if_neg (fun h => hm h.1), if_neg hm, if_neg (fun h => hm h.1)]

theorem litED_addb {m id : Pa} {D : Nat → Bool} {ps : List LitE} {env : Env} {bef : List Nat} (hok : LitOk bef m ps) {i : Nat} {p : LitE} (hp : ps[i]? = some p) (t : Pa) :
    envAt (litED m id (addD D (2 * i + 1)) ps env ps.length) t = envAt (Tr.set (some p.2.2.1) (litED m id D ps env ps.length) p.2.1) t := by
  rw [envAt_set']
  obtain ⟨a1, a2⟩ := litED_at (id := id) (D := addD D (2 * i + 1)) (env := env) hok t ps.length (Nat.le_refl _)
  obtain ⟨b1, b2⟩ := litED_at (id := id) (D := D) (env := env) hok t ps.length (Nat.le_refl _)
  have hlt := (List.getElem?_eq_some_iff.1 hp).1
  by_cases ht : p.2.1 = t
  · rw [a1 i p hlt hp ht, if_pos ht, if_pos (by unfold addD; rw [if_pos rfl])]
  · rw [if_neg ht]
    by_cases hx : ∃ (j : Nat) (q : LitE), ps[j]? = some q ∧ q.2.1 = t
    · obtain ⟨j, q, hq, hqt⟩ := hx
      have hlt' := (List.getElem?_eq_some_iff.1 hq).1
      rw [a1 j q hlt' hq hqt, b1 j q hlt' hq hqt]
      have hne : j ≠ i := fun e => by subst e; rw [hp] at hq; cases hq; exact ht hqt
      have : addD D (2 * i + 1) (2 * j + 1) = D (2 * j + 1) := by unfold addD; rw [if_neg (by omega)]
      rw [this]
    · have hno : ∀ (i : Nat) (p : LitE), i < ps.length → ps[i]? = some p → p.2.1 ≠ t := fun i p _ hp e => hx ⟨i, p, hp, e⟩
      rw [a2 hno, b2 hno]
      have : addD D (2 * i + 1) 0 = D 0 := by unfold addD; rw [if_neg (by omega)]
      rw [this]

theorem litEnv_eq (m id : Pa) (ps : List LitE) (env : Env) (D : Nat → Bool) (h0 : D 0 = true) (h1 : ∀ i, i < ps.length → D (2 * i + 1) = true) : litED m id D ps env ps.length = litEnv (ps.map fun p => p.2) (Tr.set (some (.map id)) env m) := by
  have snoc : ∀ (l : List (Pa × V × V)) (x : Pa × V × V) (e : Env), litEnv (l ++ [x]) e = Tr.set (some x.2.1) (litEnv l e) x.1 := by
    intro l
    induction l with
    | nil => intro x e; rfl
    | cons a l ih => intro x e; exact ih x _
  have key : ∀ n, n ≤ ps.length → litED m id D ps env n = litEnv ((ps.take n).map fun p => p.2) (Tr.set (some (.map id)) env m) := by
    intro n
    induction n with
    | zero => intro _; unfold litED; rw [if_pos h0]; rfl
    | succ n ih =>
      intro hn
      obtain ⟨q, hq⟩ : ∃ q, ps[n]? = some q := ⟨_, List.getElem?_eq_getElem hn⟩
      rw [litED, hq]
      dsimp only
      rw [if_pos (h1 n (by omega)), ih (by omega), List.take_add_one, hq]
      simp only [Option.toList_some, List.map_append, List.map_cons, List.map_nil]
      rw [snoc]
  have := key ps.length (Nat.le_refl _)
  rw [List.take_length] at this
  exact this

theorem litIn_all (ps : List LitE) (D : Nat → Bool) (h : ∀ i, i < ps.length → D (2 * i + 2) = true) : litIn D ps ps.length = ps.map fun p => ⟨p.2.2.1, p.2.2.2, 0⟩ := by
  have key : ∀ n, n ≤ ps.length → litIn D ps n = (ps.take n).map fun p => ⟨p.2.2.1, p.2.2.2, 0⟩ := by
    intro n
    induction n with
    | zero => intro _; rfl
    | succ n ih =>
      intro hn
      obtain ⟨q, hq⟩ : ∃ q, ps[n]? = some q := ⟨_, List.getElem?_eq_getElem hn⟩
      rw [litIn, hq]
      dsimp only
      rw [if_pos (h n (by omega)), ih (by omega), List.take_add_one, hq]
      simp
  have := key ps.length (Nat.le_refl _)
  rw [List.take_length] at this
  exact this

theorem findEnt_none {e : ETy} {u : V} : ∀ (es : List Ent) (i : Nat), (∀ x ∈ es, eqV S e u x.key = some false) → findEnt S e u es i = some none
  | [], i, _ => rfl
  | x :: es, i, h => by
    have e0 : findEnt S e u (x :: es) i = obind (eqV S e u x.key) fun b => Bool.rec (findEnt S e u es (Nat.succ i)) (some (some (i, x.val))) b := rfl
    rw [e0, h x (by simp)]
    exact findEnt_none es (i + 1) fun y hy => h y (by simp [hy])

theorem lit_ok (hcx : CxI P cx) (hm : P.follows .mixedOrders = true) {cf : CF} (hcf : CFOk (ccOf cx) P cf) {id : Nat} {l0 : List KOper} {k : KCode} (hl0 : omap (cOper cx fid N ops.toList .pure) ops.toList = some l0)
    (hk : cMapLit ops.toList (befores ops.toList []) l0 = some k) : CodeOk cx P cf N (.region id ops true) k := by
  intro F n lf lo fr S p S' ρ a w hF hnd hra hlo hex hr hfr ht
  obtain ⟨m, ps, rest, tl, c0, rfl, hps, hedges, hok, htail, rfl⟩ := cMapLit_ok hk
  obtain ⟨⟨hlen, hpairs⟩, hdrop⟩ := litPairs_ok m rest ps tl hps
  obtain ⟨hlen0, hget0⟩ := omap_some hl0
  have hsize : ops.size = 1 + 2 * ps.length + tl.length := by
    have : ops.size = ops.toList.length := by simp
    rw [this, ← hlen0, List.length_cons, hlen]; omega
  have hget : ∀ j, j < ops.size → ∃ o ko, ops[j]? = some o ∧ (KOper.ev c0 none (some m) .mkMap :: rest)[j]? = some ko ∧ cOper cx fid N ops.toList .pure o = some ko := fun j hj => by
    have hj' : j < ops.toList.length := by simpa using hj
    obtain ⟨ko, h1, h2⟩ := hget0 j ops.toList[j] (List.getElem?_eq_getElem hj')
    exact ⟨ops.toList[j], ko, by rw [← Array.getElem?_toList]; exact List.getElem?_eq_getElem hj', h1, h2⟩
  have hedges' : ∀ j o e, ops[j]? = some o → e ∈ o.after.toList → Region.binds .any e = true → e.on < j := fun j o e hj he hb => by
    have := lall_idx ops.toList 0 hedges j o e (by rw [Array.getElem?_toList]; exact hj) he hb
    omega
  obtain ⟨frL, hfrL⟩ : ∃ f : Fr, f = ⟨litEnv (ps.map fun p => p.2) (Tr.set (some (.map S.next)) fr.env m), fr.defers⟩ := ⟨_, rfl⟩
  obtain ⟨SL, hSL⟩ : ∃ s : St, s = S.new (.bag (lmap (fun p => ⟨p.2.1, p.2.2, 0⟩) (ps.map fun p => p.2))) := ⟨_, rfl⟩
  have hex : resBind (steps cf tl frL SL) (fun fr s => Res.ok (Exit.normal, fr) s) = .ok p S' := by rw [hfrL, hSL]; exact hex
  obtain ⟨frE, SE, hsteps, hex⟩ := resBind_ok hex
  cases hex
  have hndt : F.round = none ∨ ∀ ko ∈ tl, notDefer ko = true := hnd.imp (fun h => h) fun hh => (lall_iff _ _).1 (by
    have hh : band true (lall notDefer tl) = true := hh
    simpa using hh)
  refine wpIn_region_any hm ?_
  -- the literal, whole
  have whole : ∀ (D : Nat → Bool) (a1 : Act) (w1 : World), (∀ i, i < 1 + 2 * ps.length → D i = true) → LInv (ccOf cx) N m ps lo ρ S w fr.env fr.defers D a1 w1 → ∃ ρ1, Sim (ccOf cx) ρ S w ρ1 SL w1 ∧ FrR lo N ρ1 SL w1 frL a1 ∧ Top SL ρ1 := by
    intro D a1 w1 hall hI
    obtain ⟨ρ1, SD, hs, hsz, hen, hds, hz, hone⟩ := hI.ex
    have h0 := hall 0 (by omega)
    obtain ⟨o1, o2⟩ := hone h0
    have hfin : Sim (ccOf cx) ρ S w ρ1 SL w1 := hs.alter (by rw [hSL, o1]; rfl) fun id L b h1 h2 => by
      refine .inl ?_
      rw [o2, litIn_all ps D fun i hi => hall _ (by omega)]
      rw [hSL, lmap_eq, List.map_map] at h2
      by_cases e : S.next = id
      · subst e
        rw [St.get_new_same] at h2
        rw [if_pos rfl]; exact h2
      · rw [St.get_new_ne _ _ (Ne.symm e)] at h2
        rw [if_neg e]; exact h2
    refine ⟨ρ1, hfin, ⟨?_, hsz, by rw [hfrL]; exact hds.any hfin.rel⟩, ht.sim hfin⟩
    rw [hfrL]
    show EnvR ρ1 (litEnv (ps.map fun p => p.2) (Tr.set (some (.map S.next)) fr.env m)) a1.tmps
    rw [← litEnv_eq m S.next ps fr.env D h0 fun i hi => hall _ (by omega)]
    exact hen
  refine any_order hedges' (fun D a w1 => ((∀ i, 1 + 2 * ps.length ≤ i → D i = false) ∧ LInv (ccOf cx) N m ps lo ρ S w fr.env fr.defers D a w1) ∨
    (∃ t, t ≤ tl.length ∧ (∀ i, i < ops.size → (D i = true ↔ i < 1 + 2 * ps.length + t)) ∧ ∃ frt St ρt, steps cf (tl.drop t) frt St = .ok frE S' ∧ Sim (ccOf cx) ρ S w ρt St w1 ∧ FrR lo N ρt St w1 frt a ∧ Top St ρt))
    ?_ ?_ ops.size (Array.replicate ops.size false) a { w with drawn := w.drawn + 1 } (by simp) (by simp) (fun j hj => ?_) ?_
  · intro D a w1 j hJ hj hDj hdone next hnext
    by_cases hjt : 1 + 2 * ps.length ≤ j
    · -- behind the literal
      have hbits : ∀ i, i < j → D i = true := fun i hi => hdone i (by
        have := tailOk_ok _ tl (2 * ps.length + 1) (j - (2 * ps.length + 1)) htail (by omega) i (by omega)
        rw [show 2 * ps.length + 1 + (j - (2 * ps.length + 1)) = j by omega] at this
        exact this)
      have hJ2 : ∃ t, t ≤ tl.length ∧ (∀ i, i < ops.size → (D i = true ↔ i < 1 + 2 * ps.length + t)) ∧ ∃ frt St ρt, steps cf (tl.drop t) frt St = .ok frE S' ∧ Sim (ccOf cx) ρ S w ρt St w1 ∧ FrR lo N ρt St w1 frt a ∧ Top St ρt := by
        rcases hJ with ⟨h1, h2⟩ | h
        · obtain ⟨ρ1, k1, k2, k3⟩ := whole D a w1 (fun i hi => hbits i (by omega)) h2
          refine ⟨0, Nat.zero_le _, fun i hi => ⟨fun h => ?_, fun h => hbits i (by omega)⟩, frL, SL, ρ1, hsteps, k1, k2, k3⟩
          by_cases hlt : i < 1 + 2 * ps.length + 0
          · exact hlt
          · rw [h1 i (by omega)] at h; cases h
        · exact h
      obtain ⟨t, t1, t2, frt, St, ρt, t3, t4, t5, t6⟩ := hJ2
      have hjt' : j = 1 + 2 * ps.length + t := by
        have h1 : ¬ j < 1 + 2 * ps.length + t := fun h => by rw [(t2 j hj).2 h] at hDj; cases hDj
        by_cases e : j = 1 + 2 * ps.length + t
        · exact e
        · have := (t2 (1 + 2 * ps.length + t) (by omega)).1 (hbits _ (by omega))
          omega
      obtain ⟨o, ko, ho, hkj, hco⟩ := hget j hj
      have hkt : tl[t]? = some ko := by
        rw [hjt', show 1 + 2 * ps.length + t = (2 * ps.length + t) + 1 by omega, List.getElem?_cons_succ] at hkj
        rw [← hdrop, List.getElem?_drop]; exact hkj
      have hlt : t < tl.length := (List.getElem?_eq_some_iff.1 hkt).1
      have hdr : tl.drop t = ko :: tl.drop (t + 1) := by
        rw [List.drop_eq_getElem_cons hlt]
        have := (List.getElem?_eq_some_iff.1 hkt).2
        rw [this]
      rw [hdr] at t3
      obtain ⟨fr₁, S₁, u1, u2⟩ := resBind_ok (show resBind (step cf ko frt St) (steps cf (tl.drop (t + 1))) = .ok frE S' from t3)
      unfold wpOpIn
      simp only [ho]
      refine step_sound hcx hcf hco u1 t4.rel t5 (t6.fresh S₁) (fun _ => t6) hF (hndt.imp (fun h => h) fun hh => hh ko (List.mem_of_getElem? hkt)) n fun ρ' a' w' hs' hfr' => ?_
      refine hnext a' w' (.inr ⟨t + 1, hlt, fun i hi => ?_, fr₁, S₁, ρ', u2, t4.trans hs', hfr', t6.sim hs'⟩)
      unfold addD
      by_cases e : i = j
      · rw [if_pos e]; exact ⟨fun _ => by omega, fun _ => rfl⟩
      · rw [if_neg e, t2 i hi]; omega
    have hjk : j < 1 + 2 * ps.length := by omega
    obtain ⟨hno, hI⟩ : (∀ i, 1 + 2 * ps.length ≤ i → D i = false) ∧ LInv (ccOf cx) N m ps lo ρ S w fr.env fr.defers D a w1 := by
      rcases hJ with h | ⟨t, t1, t2, _⟩
      · exact h
      · have := (t2 j hj).2 (by omega)
        rw [hDj] at this; cases this
    have hno' : ∀ i, 1 + 2 * ps.length ≤ i → addD D j i = false := fun i hi => by unfold addD; rw [if_neg (by omega)]; exact hno i hi
    replace hnext : ∀ a' w', LInv (ccOf cx) N m ps lo ρ S w fr.env fr.defers (addD D j) a' w' → next a' w' := fun a' w' h => hnext a' w' (.inl ⟨hno', h⟩)
    obtain ⟨ρ1, SD, hs, hsz, hen, hds, hz, hone⟩ := hI.ex
    obtain ⟨o, ko, ho, hkj, hco⟩ := hget j hj
    have hfr1 : FrR lo N ρ1 SD w1 ⟨litED m S.next D ps fr.env ps.length, fr.defers⟩ a := ⟨hen, hsz, hds⟩
    have hD0 : addD D j 0 = if 0 = j then true else D 0 := rfl
    unfold wpOpIn
    simp only [ho]
    rcases Nat.eq_zero_or_pos j with rfl | hjp
    · -- the map
      simp at hkj
      subst hkj
      obtain ⟨hz1, hz2⟩ := hz hDj
      subst hz2
      have hst : step cf (.ev c0 none (some m) .mkMap) ⟨litED m SD.next D ps fr.env ps.length, fr.defers⟩ SD = .ok ⟨Tr.set (some (.map SD.next)) (litED m SD.next D ps fr.env ps.length) m, fr.defers⟩ (SD.new (.map [] 0)) := rfl
      have ht1 : Top SD ρ1 := ht.sim hs
      refine step_sound hcx hcf hco hst hs.rel hfr1 (ht1.fresh _) (fun hx => by cases hx) hF (.inr rfl) n fun ρ' a' w' hs' hfr' => ?_
      have hall : Sim (ccOf cx) ρ SD w ρ' (SD.new (.bag [])) w' := (hs.trans hs').alter rfl fun id L b h1 h2 => by
        by_cases e : id = SD.next
        · subst e
          rw [St.get_new_same] at h2
          cases h2
          refine .inr ⟨_, St.get_new_same _ _, rfl, ?_⟩
          obtain ⟨es', g1, g2⟩ := hs'.rel.blk _ L _ h1 (St.get_new_same _ _)
          exact ⟨es', 0, [], g1, g2, List.Perm.refl _⟩
        · rw [St.get_new_ne _ _ e] at h2
          exact .inl (by rw [St.get_new_ne _ _ e]; exact h2)
      refine hnext a' w' ⟨ρ', SD.new (.bag []), hall, hfr'.size, fun i => ?_, hfr'.defs.any hall.rel, fun h => ?_, fun _ => ⟨rfl, fun id => ?_⟩⟩
      · rw [litED_addm hok]; exact hfr'.env i
      · rw [hD0, if_pos rfl] at h; cases h
      · rw [litIn_add_out (fun i _ => by omega), litIn_none ps.length hz1]
        by_cases e : SD.next = id
        · subst e; rw [if_pos rfl]; exact St.get_new_same _ _
        · rw [if_neg e]; exact St.get_new_ne _ _ (Ne.symm e)
    · have hadd0 : addD D j 0 = D 0 := by rw [hD0, if_neg (by omega)]
      obtain ⟨i, hi⟩ : ∃ i, j = 2 * i ∨ j = 2 * i + 1 := ⟨j / 2, by omega⟩
      rcases hi with hi | hi
      · -- an entry
        obtain ⟨i, rfl⟩ : ∃ i', i = i' + 1 := ⟨i - 1, by omega⟩
        have hj2 : j = 2 * i + 2 := by omega
        clear hi
        subst hj2
        have hil : i < ps.length := by omega
        obtain ⟨q, hq⟩ : ∃ q, ps[i]? = some q := ⟨_, List.getElem?_eq_getElem hil⟩
        obtain ⟨x, y, g1, g2, ⟨c, c', z, bs, rfl, rfl, hbt, sb, hbe⟩⟩ := hpairs i q hq
        rw [show 2 * i + 2 = 2 * i + 1 + 1 by omega, List.getElem?_cons_succ, g2] at hkj
        cases hkj
        have h0 := hdone 0 (hok.m0 i q hq)
        have h1 := hdone (2 * i + 1) (hok.pre i q hq)
        obtain ⟨o1, o2⟩ := hone h0
        have hem := litED_m (id := S.next) (env := fr.env) hok h0
        have hed := litED_d (id := S.next) (env := fr.env) hok hq h1
        -- the entries in their own order
        obtain ⟨L, hL, _⟩ : ∃ L, ρ1 S.next = some L ∧ True := by
          have h2 := hen m.toNat
          rw [pa_toNat, hem] at h2
          obtain ⟨L, hL, _⟩ := h2
          exact ⟨L, hL, trivial⟩
        have hbag : SD.get S.next = some (.bag (litIn D ps ps.length)) := by rw [o2, if_pos rfl]
        obtain ⟨es', clock, es2, b1, b2, b3⟩ := hs.rel.blk _ L _ hL hbag
        have getA : ∀ (b : Blk) id, (SD.put S.next b).get id = if S.next = id then some b else SD.get id := fun b id => St.get_put _ _ _ _
        have hsA : Sim (ccOf cx) ρ S w ρ1 (SD.put S.next (.map es2 clock)) w1 := hs.alter rfl fun id L' b h2 h3 => by
          rw [getA] at h3
          split at h3
          · rename_i e
            subst e
            cases h3
            refine .inr ⟨_, hbag, rfl, ?_⟩
            rw [hL] at h2; cases h2
            exact ⟨es', b1, b2⟩
          · exact .inl h3
        have hkeys : ∀ x ∈ es2, eqV (SD.put S.next (.map es2 clock)) q.1 q.2.2.1 x.key = some false := fun x hx => by
          have hmem : (x.key, x.val) ∈ (litIn D ps ps.length).map fun x => (x.key, x.val) := b3.mem_iff.1 (List.mem_map.2 ⟨x, hx, rfl⟩)
          obtain ⟨x2, hx2, he⟩ := List.mem_map.1 hmem
          obtain ⟨i', q', k1, k2, k3, rfl⟩ := litIn_mem _ _ hx2
          injection he with e1 _
          have e1 : q'.2.2.1 = x.key := e1
          rw [← e1]
          have hne : i' ≠ i := fun e => by subst e; rw [hDj] at k3; cases k3
          refine eqV_S00 ?_ _
          rcases Nat.lt_or_gt_of_ne hne with hlt | hlt
          · exact (hok.un i i' q q' hlt hq k2).l
          · exact (hok.un i' i q' q hlt k2 hq).r
        have hev : evalOp (.mapUpdate q.1 (.t m) (.t q.2.1) (.c q.2.2.2)) (litED m S.next D ps fr.env ps.length) (SD.put S.next (.map es2 clock)) =
            .ok undefV ((SD.put S.next (.map es2 clock)).put S.next (.map (es2 ++ [⟨q.2.2.1, q.2.2.2, clock⟩]) (clock + 1))) := by
          show evMapUpdate q.1 (.t m) (.t q.2.1) (.c q.2.2.2) (litED m S.next D ps fr.env ps.length) (SD.put S.next (.map es2 clock)) = _
          unfold evMapUpdate
          rw [look_tmp, look_tmp, look_const, hem, hed, hok.fits i q hq]
          show (SD.put S.next (.map es2 clock)).mapOf S.next _ = _
          unfold St.mapOf
          rw [getA, if_pos rfl]
          show rbind (findEnt (SD.put S.next (.map es2 clock)) q.1 q.2.2.1 es2 0) _ = _
          rw [findEnt_none es2 0 hkeys, lapp_eq]
          rfl
        have hst : step cf (.ev c' none none (.mapUpdate q.1 (.t m) (.t q.2.1) (.c q.2.2.2))) ⟨litED m S.next D ps fr.env ps.length, fr.defers⟩ (SD.put S.next (.map es2 clock)) =
            .ok ⟨litED m S.next D ps fr.env ps.length, fr.defers⟩ ((SD.put S.next (.map es2 clock)).put S.next (.map (es2 ++ [⟨q.2.2.1, q.2.2.2, clock⟩]) (clock + 1))) := step_ev_mk (d := none) rfl hev
        have hfrA : FrR lo N ρ1 (SD.put S.next (.map es2 clock)) w1 ⟨litED m S.next D ps fr.env ps.length, fr.defers⟩ a := ⟨hen, hsz, hds.any hsA.rel⟩
        refine step_sound hcx hcf hco hst hsA.rel hfrA (fun id h2 h3 => ?_) (fun hx => by cases hx) hF (.inr rfl) n fun ρ' a' w' hs' hfr' => ?_
        · have h3 : id.toNat < SD.next.toNat := h3
          have h2 : SD.next.toNat ≤ id.toNat := h2
          omega
        · have hsame : ∀ id, ρ' id = ρ1 id := fun id => hs'.ext id (by
            show id.toNat < SD.next.toNat ∨ SD.next.toNat ≤ id.toNat
            omega)
          have hall : Sim (ccOf cx) ρ S w ρ' (SD.put S.next (.bag (litIn (addD D (2 * i + 2)) ps ps.length))) w' := (hsA.trans hs').alter rfl fun id L' b h2 h3 => by
            rw [getA] at h3
            have gB : ∀ id, ((SD.put S.next (.map es2 clock)).put S.next (.map (es2 ++ [⟨q.2.2.1, q.2.2.2, clock⟩]) (clock + 1))).get id = if S.next = id then some (.map (es2 ++ [⟨q.2.2.1, q.2.2.2, clock⟩]) (clock + 1)) else SD.get id := fun id => by
              rw [St.get_put]
              split
              · rfl
              · rename_i e; rw [getA, if_neg e]
            split at h3
            · rename_i e
              subst e
              cases h3
              have hB := gB S.next
              rw [if_pos rfl] at hB
              refine .inr ⟨_, hB, rfl, ?_⟩
              obtain ⟨em, m1, m2⟩ := hs'.rel.blk _ L' _ h2 hB
              refine ⟨em, clock + 1, _, m1, m2, ?_⟩
              rw [List.map_append]
              refine (b3.append_right _).trans ?_
              have hp := (litIn_add hq hDj ps.length hil).map fun x => (x.key, x.val)
              rw [List.map_append] at hp
              exact hp.symm
            · rename_i e
              exact .inl (by rw [gB, if_neg e]; exact h3)
          refine hnext a' w' ⟨ρ', _, hall, hfr'.size, fun i' => ?_, hfr'.defs.any hall.rel, fun h => ?_, fun _ => ⟨o1, fun id => ?_⟩⟩
          · rw [litED_add_out (fun i' _ => by omega) (by omega)]
            exact hfr'.env i'
          · rw [hadd0, h0] at h; cases h
          · rw [getA, o2]
            split <;> rfl
      · -- a key
        subst hi
        have hil : i < ps.length := by omega
        obtain ⟨q, hq⟩ : ∃ q, ps[i]? = some q := ⟨_, List.getElem?_eq_getElem hil⟩
        obtain ⟨x, y, g1, g2, ⟨c, c', z, bs, rfl, rfl, hbt, sb, hbe⟩⟩ := hpairs i q hq
        rw [List.getElem?_cons_succ, g1] at hkj
        cases hkj
        have hst : step cf (.ev c none (some q.2.1) (.build z bs)) ⟨litED m S.next D ps fr.env ps.length, fr.defers⟩ SD = .ok ⟨Tr.set (some q.2.2.1) (litED m S.next D ps fr.env ps.length) q.2.1, fr.defers⟩ SD :=
          step_ev_mk (d := some q.2.1) rfl (build_const hbt hbe _ _)
        refine step_sound hcx hcf hco hst hs.rel hfr1 (fun id h2 h3 => by omega) (fun hx => by cases hx) hF (.inr rfl) n fun ρ' a' w' hs' hfr' => ?_
        refine hnext a' w' ⟨ρ', SD, hs.trans hs', hfr'.size, fun i' => ?_, hfr'.defs, fun h => ?_, fun h => ?_⟩
        · rw [litED_addb hok hq]; exact hfr'.env i'
        · rw [hadd0] at h
          obtain ⟨z1, z2⟩ := hz h
          exact ⟨fun i' hi' => by unfold addD; rw [if_neg (by omega)]; exact z1 i' hi', z2⟩
        · rw [hadd0] at h
          rw [litIn_add_out (fun i' _ => by omega)]
          exact hone h
  · intro D a1 w1 hall hJ
    have hJ2 : ∃ t, t ≤ tl.length ∧ (∀ i, i < ops.size → (D i = true ↔ i < 1 + 2 * ps.length + t)) ∧ ∃ frt St ρt, steps cf (tl.drop t) frt St = .ok frE S' ∧ Sim (ccOf cx) ρ S w ρt St w1 ∧ FrR lo N ρt St w1 frt a1 ∧ Top St ρt := by
      rcases hJ with ⟨h1, h2⟩ | h
      · obtain ⟨ρ1, k1, k2, k3⟩ := whole D a1 w1 (fun i hi => hall i (by omega)) h2
        refine ⟨0, Nat.zero_le _, fun i hi => ⟨fun h => ?_, fun h => hall i hi⟩, frL, SL, ρ1, hsteps, k1, k2, k3⟩
        by_cases hlt : i < 1 + 2 * ps.length + 0
        · exact hlt
        · rw [h1 i (by omega)] at h; cases h
      · exact h
    obtain ⟨t, t1, t2, frt, St, ρt, t3, t4, t5, t6⟩ := hJ2
    have ht' : t = tl.length := by
      by_cases e : t = tl.length
      · exact e
      · have := (t2 (1 + 2 * ps.length + t) (by omega)).1 (hall _ (by omega))
        omega
    subst ht'
    rw [List.drop_length] at t3
    cases t3
    exact ⟨ρt, rfl, t4, t5, t6⟩
  · exfalso
    rcases Nat.lt_or_ge j ops.size with hlt | hge
    · simp [Array.getD_eq_getD_getElem?, hlt] at hj
    · simp [Array.getD_eq_getD_getElem?, Array.getElem?_eq_none (show (Array.replicate ops.size false).size ≤ j by simp; exact hge)] at hj
  · have hDf : ∀ i, (Array.replicate ops.size false).getD i false = false := fun i => by
      rcases Nat.lt_or_ge i ops.size with hlt | hge
      · simp [Array.getD_eq_getD_getElem?, hlt]
      · simp [Array.getD_eq_getD_getElem?, Array.getElem?_eq_none (show (Array.replicate ops.size false).size ≤ i by simp; exact hge)]
    refine .inl ⟨fun i _ => hDf i, ?_⟩
    refine ⟨ρ, S, Sim.same hr ⟨rfl, rfl, rfl, rfl⟩, hfr.size, fun i => ?_, (hfr.defs.sim (Sim.same (w' := { w with drawn := w.drawn + 1 }) hr ⟨rfl, rfl, rfl, rfl⟩) fun _ _ h => h), fun _ => ⟨fun i _ => hDf _, rfl⟩, fun h => ?_⟩
    · have key : ∀ n, litED m S.next (fun i => (Array.replicate ops.size false).getD i false) ps fr.env n = fr.env := by
        intro n
        induction n with
        | zero => unfold litED; rw [if_neg (by rw [hDf]; simp)]
        | succ n ih =>
          unfold litED
          cases ps[n]? with
          | none => exact ih
          | some p => dsimp only; rw [if_neg (by rw [hDf]; simp)]; exact ih
      rw [key]; exact hfr.env i
    · rw [hDf] at h; cases h

end Go.K

namespace Go.K
variable {cx : Cx} {P : Program} {cf : CF} {fid N : Nat} {ops : Array Oper} {w : World} {ρ : Rho} {S S' : St}

theorem tmps_idx (bef : List Nat) : ∀ (l : List KOper) (k : Nat) (prev : List (Nat × KOper)), tmpsOk bef l k prev = true →
    (∀ j b p, l[j]? = some b → p ∈ prev → clash p.2 b = true → hasBit (optD 0 (lget bef (k + j))) p.1 = true) ∧
    (∀ i j a b, i < j → l[i]? = some a → l[j]? = some b → clash a b = true → hasBit (optD 0 (lget bef (k + j))) (k + i) = true)
  | [], k, prev, h => ⟨fun j b p hj => by simp at hj, fun i j a b _ hi => by simp at hi⟩
  | x :: l, k, prev, h => by
    have h : bIf (clashOk (optD 0 (lget bef k)) x prev) (tmpsOk bef l (k + 1) ((k, x) :: prev)) false = true := h
    rw [bIf_eq] at h
    split at h
    · rename_i hc
      obtain ⟨h1, h2⟩ := tmps_idx bef l (k + 1) ((k, x) :: prev) h
      refine ⟨fun j b p hj hp hcl => ?_, fun i j a b hij hi hj hcl => ?_⟩
      · cases j with
        | zero =>
          simp at hj; subst hj
          have := (lall_iff _ _).1 hc p hp
          rw [hcl] at this
          exact this
        | succ j =>
          have := h1 j b p (by simpa using hj) (by simp [hp]) hcl
          rw [show k + (j + 1) = k + 1 + j by omega]; exact this
      · cases j with
        | zero => omega
        | succ j =>
          rw [show k + (j + 1) = k + 1 + j by omega]
          cases i with
          | zero =>
            simp at hi; subst hi
            exact h1 j b (k, x) (by simpa using hj) (by simp) hcl
          | succ i =>
            have := h2 i j a b (by omega) (by simpa using hi) (by simpa using hj) hcl
            rw [show k + (i + 1) = k + 1 + i by omega]; exact this
    · cases h

theorem withCls_same (o : KOper) (c : Cls) : (o.withCls c).dst = o.dst ∧ (o.withCls c).reads = o.reads := by
  cases o <;> exact ⟨rfl, rfl⟩

theorem withCls_clash (a b : KOper) (c c' : Cls) : clash (a.withCls c) (b.withCls c') = clash a b := by
  unfold clash
  rw [(withCls_same a c).1, (withCls_same a c).2, (withCls_same b c').1, (withCls_same b c').2]

theorem nd_withCls (o : KOper) (c : Cls) : notDefer (o.withCls c) = notDefer o := by cases o <;> rfl

theorem drawn_ok (hcx : CxI P cx) (hm : P.follows .mixedOrders = true) {cf : CF} (hcf : CFOk (ccOf cx) P cf) : DrawnOk cx P cf := by
  intro fid N id ops k hreg F n lf lo fr S p S' ρ a w hF hnd hra hlo hex hr hfr ht
  obtain ⟨l0, hl0, hreg⟩ := obind_some hreg
  have hreg : orElse (cMapLit ops.toList (befores ops.toList []) l0) (cRegionD ops.toList (befores ops.toList []) l0) = some k := hreg
  cases hlit : cMapLit ops.toList (befores ops.toList []) l0 with
  | some k' =>
    rw [hlit] at hreg
    cases hreg
    exact lit_ok hcx hm hcf hl0 hlit F n lf lo fr S p S' ρ a w hF hnd hra hlo hex hr hfr ht
  | none =>
  rw [hlit] at hreg
  have hreg : cRegionD ops.toList (befores ops.toList []) l0 = some k := hreg
  obtain ⟨hchk, hreg⟩ := bIf_none hreg
  cases hreg
  have hchk : edgesOk ops.toList 0 = true ∧ tmpsOk (befores ops.toList []) l0 0 [] = true ∧ chainOk (befores ops.toList []) (writers (lmap KOper.touches l0) 0) = true := by simpa using hchk
  obtain ⟨hedges, htmps, hchain⟩ := hchk
  obtain ⟨wsv, hwsv⟩ : ∃ ws, ws = writers (lmap KOper.touches l0) 0 := ⟨_, rfl⟩
  obtain ⟨lv, hlv⟩ : ∃ l, l = withClasses (befores ops.toList []) wsv l0 0 := ⟨_, rfl⟩
  rw [← hwsv, ← hlv] at hex
  rw [← hwsv] at hchain
  rw [← hwsv, ← hlv] at hnd
  obtain ⟨fr', S₁, hst, hp⟩ := resBind_ok (show resBind (stepsD cf lv ⟨0, S.next, [], []⟩ fr ⟨S.heap, skipN lv S.next⟩) (fun fr s => Res.ok (Exit.normal, fr) s) = .ok p S' from hex)
  cases hp
  obtain ⟨T, hrun, hT0, hTf, hTS⟩ := stepsD_run lv _ _ _ _ _ hst
  obtain ⟨hlen0, hget0⟩ := omap_some hl0
  have hlen : lv.length = ops.size := by rw [hlv, withClasses_length, hlen0]; simp
  have hget : ∀ j, j < ops.size → ∃ o ko0, ops[j]? = some o ∧ l0[j]? = some ko0 ∧ cOper cx fid N ops.toList .pure o = some ko0 ∧ lv[j]? = some (ko0.withCls (clsOf (befores ops.toList []) wsv j ko0.touches)) := fun j hj => by
    have hj' : j < ops.toList.length := by simpa using hj
    obtain ⟨ko0, h1, h2⟩ := hget0 j ops.toList[j] (List.getElem?_eq_getElem hj')
    refine ⟨ops.toList[j], ko0, by rw [← Array.getElem?_toList]; exact List.getElem?_eq_getElem hj', h1, h2, ?_⟩
    rw [hlv, withClasses_get, h1, Nat.zero_add]; rfl
  have hmem : ∀ j ko0, l0[j]? = some ko0 → (ko0.touches = 3 ↔ j ∈ wsv) := fun j ko0 hj => by
    rw [hwsv, writers_mem]
    constructor
    · intro h3
      exact ⟨j, by rw [lmap_eq, List.getElem?_map, hj]; simp [h3], by simp⟩
    · rintro ⟨n, h1, h2⟩
      have : n = j := by omega
      subst this
      rw [lmap_eq, List.getElem?_map, hj] at h1
      simpa using h1
  have hwslt : ∀ i ∈ wsv, i < ops.size := fun i hi => by
    rw [hwsv, writers_mem] at hi
    obtain ⟨n, h1, h2⟩ := hi
    have := (List.getElem?_eq_some_iff.1 h1).1
    rw [lmap_eq, List.length_map, hlen0] at this
    simp at this; omega
  have hop : ∀ j, j < ops.size → ∃ o ko c, ops[j]? = some o ∧ lv[j]? = some ko ∧ cOper cx fid N ops.toList c o = some ko ∧ Kind (befores ops.toList []) wsv j ko ∧ (isWr ko = true ↔ j ∈ wsv) := fun j hj => by
    obtain ⟨o, ko0, h1, h2, h3, h4⟩ := hget j hj
    obtain ⟨k1, k2⟩ := kind_of (befores ops.toList []) wsv j ko0
    exact ⟨o, _, _, h1, h4, cOper_withCls _ h3, k1, k2.trans (hmem j ko0 h2)⟩
  have hmcount : ∀ i, i ≤ ops.size → (T i).d.m = below wsv i := by
    intro i
    induction i with
    | zero =>
      intro _
      rw [hT0]
      have hz : ∀ (l : List Nat), below l 0 = 0 := by
        intro l
        induction l with
        | nil => rfl
        | cons a l ih => exact ih
      exact (hz wsv).symm
    | succ i ih =>
      intro hi
      obtain ⟨o, ko, c, h1, h2, h3, h4, h5⟩ := hop i (by omega)
      obtain ⟨o', ko0, g1, g2, g3, g4⟩ := hget i (by omega)
      rw [(hrun.step i ko h2).2, stepD_m, ih (by omega), hwsv, below_succ, ← hwsv]
      have e : (0 ≤ i ∧ (lmap KOper.touches l0)[i - 0]? = some 3) ↔ isWr ko = true := by
        rw [h5, ← hmem i ko0 g2, lmap_eq, Nat.sub_zero, List.getElem?_map, g2]
        simp
      simp only [e]
  have hRC : RC cx cf fid N ops lv wsv T := by
    refine ⟨hlen, hrun, hop, fun j o e hj he hb => ?_, fun i j x y hij hi hj hcl => ?_, hchain, ?_, hwslt, hmcount⟩
    · have := lall_idx ops.toList 0 hedges j o e (by rw [Array.getElem?_toList]; exact hj) he hb
      omega
    · have hil : i < ops.size := by rw [← hlen]; exact (List.getElem?_eq_some_iff.1 hi).1
      have hjl : j < ops.size := by rw [← hlen]; exact (List.getElem?_eq_some_iff.1 hj).1
      obtain ⟨o1, k1, g1, g2, g3, g4⟩ := hget i hil
      obtain ⟨o2, k2, g1', g2', g3', g4'⟩ := hget j hjl
      rw [hi] at g4; cases g4
      rw [hj] at g4'; cases g4'
      rw [withCls_clash] at hcl
      have := (tmps_idx _ l0 0 [] htmps).2 i j k1 k2 hij g2 g2' hcl
      simpa using this
    · rw [hwsv]; exact writers_sorted _ _
  have h0 : St0 lv T ρ S := ⟨by rw [hT0], by rw [hT0], ht⟩
  have hnd' : F.round = none ∨ ∀ ko ∈ lv, notDefer ko = true := hnd.imp (fun h => h) fun hh => (lall_iff _ _).1 hh
  refine wpIn_region_any hm ?_
  obtain ⟨q, _, q2, q3, q4⟩ := next_write (ws := wsv) (k := ops.size) _ 0 rfl (Nat.zero_le _)
  obtain ⟨g1, g2, g3, g4⟩ := hRC.between q (Nat.zero_le _) q2 q4
  have hnone : ∀ {t b}, AlW lv T t b → ρ (T t).d.rid = none := fun {t b} hb => ht _ (hRC.rid_in h0 hb).1
  have hbase : Mv (ccOf cx) ρ S w ρ (T q).S { w with drawn := w.drawn + 1 } :=
    (Sim.same (w' := { w with drawn := w.drawn + 1 }) hr ⟨rfl, rfl, rfl, rfl⟩).mv.turn fun id b L h1 h2 => by
      rw [g3 id fun t b' _ _ hb e => by subst e; rw [hnone hb] at h2; cases h2] at h1
      rw [hT0] at h1
      exact h1
  refine drawn_any (cc := ccOf cx) (ρ0 := ρ) (S0 := S) (w0 := w) (lo := lo) hcx hcf hRC h0 hF hnd' n ?_ ops.size (Array.replicate ops.size false) a { w with drawn := w.drawn + 1 } q ρ (T q).S (by simp) (by simp) (fun j hj => ?_) ?_
  · intro D a' w' q' ρ' SD hall hI
    have hqe : q' = ops.size := by
      by_cases e : q' = ops.size
      · exact e
      · have hlt : q' < ops.size := by have := hI.hq; omega
        have hqw := hI.hqw hlt
        have := (hI.hD q' hqw).1 (hall q' hlt)
        omega
    subst hqe
    rw [← hlen] at hI
    have hsz : lv.length = ops.size := hlen
    have hnext : S.next.toNat ≤ (T 0).S.next.toNat := by rw [hT0]; show _ ≤ (skipN lv S.next).toNat; rw [skipN_toNat]; omega
    rw [← hTS, ← hTf]
    have hsim : Sim (ccOf cx) ρ S w ρ' (T lv.length).S w' :=
      have hmv := hI.mv.turn (D' := (T lv.length).S) fun id b L h1 _ => hI.sub id b h1
      ⟨Nat.le_trans hnext hI.nx0, hI.ext, hmv.rel, hmv.frm, hmv.shr, hmv.blks⟩
    refine ⟨ρ', rfl, hsim, ⟨fun i => ?_, hI.size, hI.dfs.any hsim.rel⟩, ht.sim hsim⟩
    have := hI.env i
    rw [hRC.ED_at (j := lv.length) (by omega) (fun i hi _ => hall i (by omega)) (fun i h1 h2 => by omega)] at this
    exact this
  · exfalso
    rcases Nat.lt_or_ge j ops.size with hlt | hge
    · simp [Array.getD_eq_getD_getElem?, hlt] at hj
    · simp [Array.getD_eq_getD_getElem?, Array.getElem?_eq_none (show (Array.replicate ops.size false).size ≤ j by simp; exact hge)] at hj
  · have hDf : ∀ i, (Array.replicate ops.size false).getD i false = false := fun i => by
      rcases Nat.lt_or_ge i ops.size with hlt | hge
      · simp [Array.getD_eq_getD_getElem?, hlt]
      · simp [Array.getD_eq_getD_getElem?, Array.getElem?_eq_none (show (Array.replicate ops.size false).size ≤ i by simp; exact hge)]
    refine ⟨q2, q3, fun i hi => ?_, hfr.size, fun i => ?_, hbase, rfl, by rw [g2]; exact Nat.le_refl _, fun _ _ => rfl, Sub.refl _, fun id b hb => .inl hb, fun i b hi => ?_, fun i b _ hb => hnone hb, ?_⟩
    · rw [hDf]
      exact ⟨fun h => (by cases h), fun h => absurd hi (q4 i (Nat.zero_le _) h)⟩
    · rw [hRC.ED_at (j := 0) (Nat.zero_le _) (fun i hi => by omega) (fun i _ _ _ => hDf i), hT0]
      exact hfr.env i
    · rw [hDf] at hi; cases hi
    · rw [g1, hT0]
      exact (hfr.defs.any (w := w) (D := S) hr).mv (hbase) (fun _ _ h => h)

end Go.K

namespace Go.K
variable {ρ ρ' ρ₁ : Rho} {S S' S₁ : St} {w w' w₁ : World} {P : Program} {cx : Cx}

/-- one object more, which is nobody's -/
theorem Sim.more {cc : CC} (h : Rel cc ρ S w) (o : Obj) (hno : ∀ c e fz, o ≠ .cells c e fz) : Sim cc ρ S w ρ S (w.alloc o) := by
  refine ⟨Nat.le_refl _, fun _ _ => rfl, ⟨fun id L b h1 h2 => (h.blk id L b h1 h2).congr (more_old w o (h.blk id L b h1 h2).there), h.apart⟩, ⟨?_, rfl, rfl, rfl, fun blk ob hob _ => ?_, fun blk c e fz hob => ?_, fun blk lp hob => ?_, fun blk c e fz hob => ?_⟩, fun _ _ h => .inl h, fun _ h => .inl h⟩
  · show w.heap.size ≤ (w.heap.push o).size
    rw [Array.size_push]; exact Nat.le_succ _
  · rw [more_old w o (heap_lt hob)]; exact hob
  · exact ⟨c, by rw [more_old w o (heap_lt hob)]; exact hob, rfl, fun _ _ => rfl⟩
  · exact ⟨lp, by rw [more_old w o (heap_lt hob)]; exact hob⟩
  · by_cases hlt : blk < w.heap.size
    · rw [more_old w o hlt] at hob; exact .inl ⟨c, hob⟩
    · have hsz : (w.alloc o).heap.size = w.heap.size + 1 := by show (w.heap.push o).size = _; simp
      have hl := heap_lt hob
      have : blk = w.heap.size := by omega
      subst this
      rw [more_new] at hob
      exact absurd (Option.some.inj hob) (hno c e fz)

theorem DefR.targets {lo : Nat} {l : List (V × List V)} {m : List Deferred} (h : DefR lo ρ S w l m) : ∀ d ∈ m, d.target ≠ .collected w.heap.size := by
  induction h with
  | nil => intro d hd; cases hd
  | pass _ ih => exact ih
  | call h _ ih =>
    intro d hd
    rcases List.mem_cons.1 hd with rfl | hd
    · obtain ⟨f, first, captured, A, C, h1, h2, h3⟩ := h
      rw [h2]; intro hc; cases hc
    · exact ih d hd
  | mark h _ _ ih =>
    intro d hd
    rcases List.mem_cons.1 hd with rfl | hd
    · intro hc
      injection hc with hc
      have := heap_lt h.at'
      omega
    · exact ih d hd

theorem ok_exit {cf : CF} {N id : Nat} : CodeOk cx P cf N (.exit id) (.exit id) := by
  intro F n lf lo fr S p S' ρ a w hF hnd hra hlo hex hr hfr ht
  have hex : Res.ok (Exit.exit id, fr) S = .ok p S' := hex
  cases hex
  exact wpIn_exit ⟨ρ, rfl, Sim.refl hr, hfr, ht⟩

theorem ok_ret {cf : CF} {N : Nat} : CodeOk cx P cf N .ret .ret := by
  intro F n lf lo fr S p S' ρ a w hF hnd hra hlo hex hr hfr ht
  have hex : Res.ok (Exit.ret, fr) S = .ok p S' := hex
  cases hex
  exact wpIn_ret ⟨ρ, rfl, Sim.refl hr, hfr, ht⟩

theorem ok_skip {cf : CF} {N : Nat} : CodeOk cx P cf N .skip .skip := by
  intro F n lf lo fr S p S' ρ a w hF hnd hra hlo hex hr hfr ht
  have hex : Res.ok (Exit.normal, fr) S = .ok p S' := hex
  cases hex
  exact wpIn_skip ⟨ρ, rfl, Sim.refl hr, hfr, ht⟩

theorem endRange_ok {l : Pa} {fr : Fr} {p : Exit × Fr} (h : endRange l fr S = .ok p S') :
    ∃ done tmps params assign body pending, S.get l = some (.loop done tmps params assign body pending) ∧ done ≠ 1 ∧ p = (endExit pending, ⟨fr.env, markD :: fr.defers⟩) ∧ S' = S.put l (.loop 3 tmps params assign body pending) := by
  obtain ⟨b, hb, h⟩ := rbind_ok h
  cases b with
  | loop done tmps params assign body pending =>
    have h : bIf (Nat.beq done 1) (.err 53) (Res.ok (endExit pending, (⟨fr.env, markD :: fr.defers⟩ : Fr)) (S.put l (.loop 3 tmps params assign body pending))) = .ok p S' := h
    rw [natBeq_eq] at h
    by_cases hd : done = 1
    · rw [decide_eq_true hd] at h; cases h
    · rw [decide_eq_false hd] at h
      cases h
      exact ⟨_, _, _, _, _, _, hb, hd, rfl, rfl⟩
  | _ => cases h

/-- a loop's record turned -/
theorem sim_loop {cc : CC} (hr : Rel cc ρ S w) {l : Pa} {L : Loc} {b : Blk} {lp lp' : Loop} {done : Nat} {tmps : Tr V} {params : List Pa} {assign body : KCode} {pending : Nat} (hL : ρ l = some L) (hS : S.get l = some b) (hb : b.isCells = false)
    (h1 : w.heap[L.blk]? = some (.loop lp)) (h2 : LoopR cc ρ done tmps params assign body pending lp') :
    Sim cc ρ S w ρ (S.put l (.loop done tmps params assign body pending)) (w.putObj L.blk (.loop lp')) :=
  have h3 : (w.putObj L.blk (.loop lp')).heap[L.blk]? = some (.loop lp') := World.putObj_heap_same (heap_lt h1)
  sim_mod hr hL hS (fun j hj => World.putObj_heap_other hj) World.putObj_size rfl rfl rfl (by rw [hb]; rfl) (fun h => by rw [hb] at h; cases h) ⟨lp', h3, h2⟩ (fun _ => ⟨lp', h3⟩)

end Go.K

namespace Go.K
variable {ρ ρ' ρ₁ : Rho} {S S' S₁ : St} {w w' w₁ : World} {P : Program} {cx : Cx}

/-- the statement's record laid -/
theorem run_enter {F : Fence} (hra : RoundAt F w) {lo N : Nat} {fr : Fr} {a : Act} {cc : CC} (hr : Rel cc ρ S w) (hfr : FrR lo N ρ S w fr a) (hlo : lo ≤ w.heap.size) (fn : FuncId) (ps : Array Tmp) (assign body : Code) :
    ∃ wA mark D, (Instr.enterLoop fn a.tmps ps assign body F.round).run P w = .ok (wA.heap.size, mark) (wA.alloc (.loop { state := .ready, pending := none, fn, tmps := a.tmps, params := ps, assign, body, defers := D })) ∧
      Sim cc ρ S w ρ S wA ∧ FrR lo N ρ S wA ⟨fr.env, markD :: fr.defers⟩ { a with defers := mark ++ a.defers } := by
  cases hro : F.round with
  | none =>
    refine ⟨w.alloc (.deferred (some [])), [{ target := .collected w.heap.size, args := #[] }], w.heap.size, ?_, Sim.more hr _ (fun _ _ _ => by simp), hfr.env, hfr.size, ?_⟩
    · rw [run_enterLoop_outer]
      have : (w.alloc (.deferred (some []))).heap.size = w.heap.size + 1 := by show (w.heap.push _).size = _; simp
      rw [this]
    · refine .mark ⟨hlo, more_new w _, fun k ⟨id, L, b, h1, h2, h3, _⟩ => ?_⟩ hfr.defs.targets (hfr.defs.sim (Sim.more hr _ (fun _ _ _ => by simp)) fun _ _ h => h)
      have := (hr.blk id L b h1 h2).there
      omega
  | some l0 =>
    obtain ⟨lp, hlp⟩ := hra l0 hro
    refine ⟨w, [], lp.defers, ?_, Sim.refl hr, hfr.env, hfr.size, .pass hfr.defs⟩
    unfold Instr.enterLoop
    simp only [Sem.run_bind, run_getLoop hlp, Result.andThen_ok, Sem.run_pure, run_newObj_alloc]

theorem ok_range {cf : CF} (hcf : CFOk (ccOf cx) P cf) {N : Nat} {X : Operand} {x : Opd} {ps : Array Tmp} {assign body : Code} {ka kb : KCode} (hx : cOpd X = some x) (hps : ∀ t ∈ ps.toList, t < N)
    (ha : ccOf cx 0 N assign ka) (hb : ccOf cx 0 N body kb) : CodeOk cx P cf N (.rangeFunc X ps assign body) (.rangeFunc x (lmap pa ps.toList) ka kb) := by
  intro F n lf lo fr S p S' ρ a w hF hnd hra hlo hex hr hfr ht
  obtain ⟨r, htv, hex⟩ := rbind_ok (show rbind (targetVal (fr.env.look x) [V.yield S.next]) (fun r => bIf (notRound r) (resBind (cf r (S.new (.loop 0 fr.env (lmap pa ps.toList) ka kb 0))) fun _ s' => endRange S.next fr s') (.err 67)) = .ok p S' from hex)
  obtain ⟨hnr, hex⟩ := bIf_err hex
  obtain ⟨v, S₂, hcall, hend⟩ := resBind_ok hex
  refine wpIn_rangeFunc fun fn _ => ?_
  obtain ⟨wA, mark, D, henter, hsA, hfrA⟩ := run_enter (P := P) hra hr hfr hlo fn ps assign body
  have hfree : ρ S.next = none := ht S.next (Nat.le_refl _)
  have hle1 := Rho.le_put (ρ := ρ) ⟨wA.heap.size, 0, 0, 0, 1⟩ hfree
  obtain ⟨lp0, hlp0⟩ : ∃ lp0 : Loop, lp0 = { state := .ready, pending := none, fn, tmps := a.tmps, params := ps, assign, body, defers := D } := ⟨_, rfl⟩
  rw [← hlp0] at henter
  have hloop : LoopR (ccOf cx) (ρ.put S.next ⟨wA.heap.size, 0, 0, 0, 1⟩) 0 fr.env (lmap pa ps.toList) ka kb 0 lp0 := by
    subst hlp0
    exact ⟨rfl, hfr.env.mono hle1, lmap_eq _ _, fun t h => by rw [hfr.size]; exact hps t h, by rw [hfr.size]; exact ha, by rw [hfr.size]; exact hb, rfl⟩
  have hs1 := sim_new hsA.rel hfree (.loop lp0) (.loop 0 fr.env (lmap pa ps.toList) ka kb 0) ⟨wA.heap.size, 0, 0, 0, 1⟩ rfl ⟨lp0, more_new wA _, hloop⟩
  have hfr1 : FrR lo N _ _ _ ⟨fr.env, markD :: fr.defers⟩ { a with defers := mark ++ a.defers } := ⟨hfrA.env.mono hle1, hfrA.size, hfrA.defs.sim hs1 hle1⟩
  have ht1 : Top (S.new (.loop 0 fr.env (lmap pa ps.toList) ka kb 0)) (ρ.put S.next ⟨wA.heap.size, 0, 0, 0, 1⟩) := ht.sim (hsA.trans hs1)
  have vx := opd_sound hx hfr.env
  rcases targetVal_some htv with ⟨f, first, captured, hfe, rfl⟩ | ⟨l, _, rfl⟩
  · obtain ⟨a1, c1, hA, h1, h2, h3⟩ := run_ofValue (P := P) (w := wA.alloc (.loop lp0)) vx hfe #[.func (.yield wA.heap.size) #[] #[]]
    obtain ⟨hfn, hcalls⟩ := hcf.fn _ _ _ _ _ hcall
    have hrun := run_callFunc (P := P) (w := wA.alloc (.loop lp0)) hfn (a1 ++ #[.func (.yield wA.heap.size) #[] #[]] ++ c1)
    refine ⟨wA.heap.size, mark, _, { target := .fn (.func f) c1, args := a1 ++ #[.func (.yield wA.heap.size) #[] #[]] }, wA.alloc (.loop lp0), f, a1 ++ #[.func (.yield wA.heap.size) #[] #[]] ++ c1, wA.alloc (.loop lp0), henter, ?_, fun f' _ => hF.fn f', ?_, hF.depth n,
      hF.calls (CallsIn.mono (hcalls (n - 1) _ _ _ hs1.rel ?_ ht1) fun e w₂ h => ?_)⟩
    · have : resolve a.eval (rangeCall X wA.heap.size) 0 = Deferred.ofValue (a.eval X) #[.func (.yield wA.heap.size) #[] #[]] := by simp [resolve, Act.eval]
      rw [this]; exact h3
    · exact hrun
    · rw [Array.toList_append, Array.toList_append, List.append_assoc]
      exact (h1.mono hle1).append (VsR.append (vs := [V.yield S.next]) ⟨_, [], rfl, ⟨_, Rho.put_same _ _ _, rfl⟩, rfl⟩ (h2.mono hle1))
    · obtain ⟨v', ρ₂, rfl, hv, hs2⟩ := h
      have hle2 := hs2.le (ht1.fresh S₂)
      have hL2 : ρ₂ S.next = some ⟨wA.heap.size, 0, 0, 0, 1⟩ := hle2 _ _ (Rho.put_same _ _ _)
      obtain ⟨done, tmps, params, ka', kb', pending, hget, hd1, rfl, rfl⟩ := endRange_ok hend
      obtain ⟨lp, hlp, hlr⟩ := hs2.rel.blk _ _ _ hL2 hget
      have hbusy : lp.state ≠ .busy := by
        rw [hlr.state]
        match done, hd1 with
        | 0, _ => simp [stateOf]
        | 1, h => exact absurd rfl h
        | 2, _ => simp [stateOf]
        | _ + 3, _ => simp [stateOf]
      have hend := run_endLoop (P := P) hlp hbusy
      have hs3 := sim_loop hs2.rel hL2 hget rfl hlp (done := 3) (lp' := { lp with state := .exhausted }) ⟨rfl, hlr.env, hlr.params, hlr.inside, hlr.assign, hlr.body, hlr.pending⟩
      have hs := ((hsA.trans hs1).trans hs2).trans hs3
      have hfr3 : FrR lo N ρ₂ _ _ ⟨fr.env, markD :: fr.defers⟩ { a with defers := mark ++ a.defers } :=
        ⟨hfr1.env.mono hle2, hfr1.size, (hfr1.defs.sim hs2 hle2).sim hs3 fun _ _ h => h⟩
      have ht3 := ht.sim hs
      generalize hw4 : w₂.putObj (Loc.blk ⟨wA.heap.size, 0, 0, 0, 1⟩) (.loop { lp with state := .exhausted }) = w4 at hend hs hfr3
      refine ⟨lp.pending, w4, hend, ?_⟩
      rw [hlr.pending]
      match pending with
      | 0 => exact ⟨ρ₂, rfl, hs, hfr3, ht3⟩
      | 1 => exact wpIn_ret ⟨ρ₂, rfl, hs, hfr3, ht3⟩
      | j + 2 => exact wpIn_exit ⟨ρ₂, rfl, hs, hfr3, ht3⟩
  · cases hnr

theorem mkLoop_same (ok : Bool) (k : KCode) : (∀ cf lf fr S, exec cf lf (mkLoop ok k) fr S = exec cf lf (.loop k) fr S) ∧ nd (mkLoop ok k) = nd (.loop k) := by
  unfold mkLoop
  split
  · cases ok
    · exact ⟨fun _ _ _ _ => rfl, rfl⟩
    · exact ⟨fun _ _ _ _ => rfl, rfl⟩
  · exact ⟨fun _ _ _ _ => rfl, rfl⟩

/-- all code -/
theorem code_ok (hcx : CxI P cx) {cf : CF} (hcf : CFOk (ccOf cx) P cf) (hD : DrawnOk cx P cf) (fid N : Nat) : ∀ (c : Code) (k : KCode), cCode cx fid N c = some k → CodeOk cx P cf N c k
  | .skip, k, h => by cases h; exact ok_skip
  | .region id ops draw, k, h => by
    have h : cRegion cx fid N ops.toList draw = some k := h
    cases draw with
    | false => exact ok_region hcx hcf h
    | true => exact hD fid N id ops k h
  | .seq c d, k, h => by
    obtain ⟨kc, hc, h⟩ := obind_some (show obind (cCode cx fid N c) (fun a => obind (cCode cx fid N d) fun b => some (KCode.seq a b)) = some k from h)
    obtain ⟨kd, hd, h⟩ := obind_some h
    cases h
    exact ok_seq (code_ok hcx hcf hD fid N c kc hc) (code_ok hcx hcf hD fid N d kd hd)
  | .cond X c d, k, h => by
    obtain ⟨x, hx, h⟩ := obind_some (show obind (cOpd X) (fun x => obind (cCode cx fid N c) fun a => obind (cCode cx fid N d) fun b => some (KCode.cond x a b)) = some k from h)
    obtain ⟨kc, hc, h⟩ := obind_some h
    obtain ⟨kd, hd, h⟩ := obind_some h
    cases h
    exact ok_cond hx (code_ok hcx hcf hD fid N c kc hc) (code_ok hcx hcf hD fid N d kd hd)
  | .block id c, k, h => by
    obtain ⟨kc, hc, h⟩ := obind_some (show obind (cCode cx fid N c) (fun a => some (KCode.block id a)) = some k from h)
    cases h
    exact ok_block (code_ok hcx hcf hD fid N c kc hc)
  | .loop c, k, h => by
    obtain ⟨kc, hc, h⟩ := obind_some (show obind (cCode cx fid N c) (fun k => some (mkLoop (nextFirst c) k)) = some k from h)
    cases h
    have hl := ok_loop (code_ok hcx hcf hD fid N c kc hc)
    obtain ⟨e1, e2⟩ := mkLoop_same (nextFirst c) kc
    intro F n lf lo fr S p S' ρ a w hF hnd hra hlo hex
    rw [e2] at hnd
    rw [e1] at hex
    exact hl F n lf lo fr S p S' ρ a w hF hnd hra hlo hex
  | .rangeFunc X ps c d, k, h => by
    obtain ⟨x, hx, h⟩ := obind_some (show obind (cOpd X) (fun x => obind (cCode cx fid N c) fun a => obind (cCode cx fid N d) fun b => bIf (band (lall (fun t => Nat.blt t N) ps.toList) (band (nd a) (nd b))) (some (KCode.rangeFunc x (lmap pa ps.toList) a b)) none) = some k from h)
    obtain ⟨kc, hc, h⟩ := obind_some h
    obtain ⟨kd, hd, h⟩ := obind_some h
    obtain ⟨hb, h⟩ := bIf_none h
    cases h
    obtain ⟨b1, b2, b3⟩ : lall (fun t => Nat.blt t N) ps.toList = true ∧ nd kc = true ∧ nd kd = true := by simpa using hb
    exact ok_range hcf hx (fun t ht => Nat.le_of_ble_eq_true ((lall_iff _ _).1 b1 t ht)) ⟨fid, hc, b2⟩ ⟨fid, hd, b3⟩
  | .exit id, k, h => by cases h; exact ok_exit
  | .ret, k, h => by cases h; exact ok_ret
  | .scope _, k, h => by cases h
  | .label _, k, h => by cases h
  | .goto _, k, h => by cases h
  | .refuse _, k, h => by cases h

end Go.K

namespace Go.K
variable {ρ ρ' ρ₁ : Rho} {S S' S₁ : St} {w w' w₁ : World} {P : Program} {cx : Cx}

/-- the table of functions is the program's -/
def TabOk (cx : Cx) (P : Program) (tab : Nat → Option KFunc) : Prop :=
  ∀ f kf, tab f = some kf → ∃ fn c, P.funcs[f]? = some fn ∧ fn.body = some c ∧ fn.name ≠ "runtime.NumGoroutine" ∧ omap (cRes cx) fn.results.toList = some kf.results ∧ cCode cx f fn.ntmps c = some kf.body ∧ kf.ntmps = fn.ntmps

/-! the start of a function -/
theorem startEnv_at : ∀ (vs : List V) (i : Nat) (e : Env) (j : Nat), envAt (startEnv vs (pa i) e) (pa j) = if i ≤ j ∧ j < i + vs.length then (vs[j - i]?).getD undefV else envAt e (pa j)
  | [], i, e, j => by rw [if_neg (by simp)]; rfl
  | v :: vs, i, e, j => by
    have h : startEnv (v :: vs) (pa i) e = startEnv vs (pa (i + 1)) (Tr.set (some v) e (pa i)) := by rw [pa_succ]; rfl
    rw [h, startEnv_at vs (i + 1), envAt_set]
    by_cases h1 : i + 1 ≤ j ∧ j < i + 1 + vs.length
    · rw [if_pos h1, if_pos (by simp; omega)]
      rw [show j - i = (j - (i + 1)) + 1 by omega]; simp
    · rw [if_neg h1]
      by_cases h2 : i = j
      · subst h2
        rw [if_pos rfl, if_pos (by simp)]; simp
      · rw [if_neg (fun h => h2 (pa_inj h)), if_neg]
        intro h3
        simp at h3; omega

theorem start_env {vs : List V} {A : Array Value} (h : VsR ρ vs A.toList) (n : Nat) : EnvR ρ (startEnv vs .z .nil) (A ++ Array.replicate (n - A.size) undef) := fun j => by
  have hl := h.length
  have e0 : startEnv vs .z .nil = startEnv vs (pa 0) .nil := by rw [pa_zero]
  rw [e0, startEnv_at]
  by_cases hj : 0 ≤ j ∧ j < 0 + vs.length
  · rw [if_pos hj]
    have hj' : j < vs.length := by omega
    obtain ⟨a, h1, h2⟩ := h.get (List.getElem?_eq_getElem hj')
    rw [Nat.sub_zero, List.getElem?_eq_getElem hj']
    have : (A ++ Array.replicate (n - A.size) undef).getD j undef = a := by
      rw [Array.getElem?_toList] at h1
      rw [Array.getD_eq_getD_getElem?, Array.getElem?_append_left (by simp at hl; omega), h1]; rfl
    rw [this]; exact h2
  · rw [if_neg hj]
    have : (A ++ Array.replicate (n - A.size) undef).getD j undef = undef := by
      rw [Array.getD_eq_getD_getElem?, Array.getElem?_append_right (by simp at hl; omega)]
      by_cases hx : j - A.size < n - A.size
      · simp [hx]
      · simp [hx]
    rw [this]
    have : envAt .nil (pa j) = undefV := by unfold envAt; rw [get_nil]; rfl
    rw [this]; exact VR.undef ρ

theorem omap_cons {α β : Type} {f : α → Option β} {a : α} {l : List α} {m : List β} (h : omap f (a :: l) = some m) : ∃ b bs, f a = some b ∧ omap f l = some bs ∧ m = b :: bs := by
  obtain ⟨b, hb, h⟩ := obind_some (show obind (f a) (fun b => obind (omap f l) fun bs => some (b :: bs)) = some m from h)
  obtain ⟨bs, hbs, h⟩ := obind_some h
  cases h
  exact ⟨b, bs, hb, hbs, rfl⟩

/-! results -/
theorem run_res1 (hcx : CxT P cx) {cc : CC} (hr : Rel cc ρ S w) {env : Env} {tmps : Array Value} (hen : EnvR ρ env tmps) {r : ResultVar} {k : KRes} {v : V} (h : cRes cx r = some k) (hv : result1 env S k = some v) :
    ∃ v', ((match r with | .tmp t => pure (tmps.getD t undef) | .cell a t => do loadVar t (← asAddr (tmps.getD a undef))) : Sem Value).run P w = .ok v' w ∧ VR ρ v v' := by
  cases r with
  | tmp t =>
    cases h
    cases hv
    exact ⟨_, rfl, hen t⟩
  | cell a t =>
    obtain ⟨g, hg, h⟩ := obind_some h
    obtain ⟨n, hn, h⟩ := obind_some h
    cases h
    have va := hen a
    cases hp : envAt env (pa a) with
    | ptr b at_ =>
      rw [hp] at va
      obtain ⟨L, hL, hA⟩ := va
      have hv : obind (S.get b) (fun blk => bIf g (obind (blk.read at_ n) fun l => some (V.agg l)) (blk.read1 at_)) = some v := by
        have h1 : result1 env S (.cell (pa a) g n) = some v := hv
        unfold result1 at h1
        simp only [hp] at h1
        exact h1
      obtain ⟨blk, hb, hv⟩ := obind_some hv
      obtain ⟨i, hi1, hi2⟩ := hcx.size hn
      have hag := hcx.agg hg w
      cases g with
      | true =>
        obtain ⟨l, hread, hv⟩ := obind_some (show obind (blk.read at_ n) (fun l => some (V.agg l)) = some v from hv)
        cases hv
        obtain ⟨c, e, hM⟩ := hr.live hL hb (isCells_of_read hread)
        obtain ⟨g1, g2, g3, g4, g5⟩ := hM.list hread
        have := hM.run_load (P := P) hread
        subst hi2
        exact ⟨.agg ((c.toList.drop (L.base + at_)).take i.size).toArray, by simp [hA, asAddr, loadVar, hag, run_sizeOf' hi1, this], ⟨_, rfl, g4, g5⟩⟩
      | false =>
        have hread : blk.read1 at_ = some v := hv
        obtain ⟨c, e, hM⟩ := hr.live hL hb (isCells_of_read1 hread)
        have hlt := read1_lt hM.size hM.wf hread
        obtain ⟨u', v', a1, a2, a3, a4⟩ := hM.each at_ hlt
        rw [hread] at a1; cases a1
        have := hM.cell a3
        exact ⟨v', by simp [hA, asAddr, loadVar, hag, run_load, this], a4⟩
    | _ =>
      exfalso
      have h1 : result1 env S (.cell (pa a) g n) = some v := hv
      unfold result1 at h1
      simp only [hp] at h1
      cases h1

theorem run_resL (hcx : CxT P cx) {cc : CC} (hr : Rel cc ρ S w) {env : Env} {tmps : Array Value} (hen : EnvR ρ env tmps) : ∀ (rs : List ResultVar) (ks : List KRes) (vs : List V), omap (cRes cx) rs = some ks → results env S ks = some vs →
    ∃ l, (rs.mapM fun r => ((match r with | .tmp t => pure (tmps.getD t undef) | .cell a t => do loadVar t (← asAddr (tmps.getD a undef))) : Sem Value)).run P w = .ok l w ∧ VsR ρ vs l
  | [], ks, vs, h, hv => by cases h; cases hv; exact ⟨[], by simp, rfl⟩
  | r :: rs, ks, vs, h, hv => by
    obtain ⟨k, ks', hk, hks, rfl⟩ := omap_cons h
    obtain ⟨v, hv1, hv⟩ := obind_some (show obind (result1 env S k) (fun v => obind (results env S ks') fun vs => some (v :: vs)) = some vs from hv)
    obtain ⟨vs', hv2, hv⟩ := obind_some hv
    cases hv
    obtain ⟨v', h1, h2⟩ := run_res1 hcx hr hen hk hv1
    obtain ⟨l, h3, h4⟩ := run_resL hcx hr hen rs ks' vs' hks hv2
    refine ⟨v' :: l, ?_, ⟨v', l, rfl, h2, h4⟩⟩
    rw [List.mapM_cons, Sem.run_bind, h1, Result.andThen_ok, Sem.run_bind, h3]
    rfl

theorem run_results (hcx : CxT P cx) {cc : CC} (hr : Rel cc ρ S w) {env : Env} {tmps : Array Value} (hen : EnvR ρ env tmps) {fn : Func} {ks : List KRes} {vs : List V} (h : omap (cRes cx) fn.results.toList = some ks) (hv : results env S ks = some vs) :
    ∃ v', (Go.results fn tmps).run P w = .ok v' w ∧ VR ρ (oneOrTup vs) v' := by
  obtain ⟨l, h1, h2⟩ := run_resL hcx hr hen _ _ _ h hv
  refine ⟨if h : l.toArray.size = 1 then l.toArray[0] else .tuple l.toArray, ?_, ?_⟩
  · unfold Go.results
    rw [Sem.run_bind, Array.mapM_eq_mapM_toList]
    rw [Sem.run_map]
    erw [h1]
    rfl
  · match vs, l, h2 with
    | [], _, h2 => rw [show _ = [] from h2]; exact ⟨#[], rfl, rfl⟩
    | [v], _, ⟨a, m, e, r1, r2⟩ =>
      have r2 : m = [] := r2
      subst r2; subst e
      exact r1
    | v :: u :: vs, _, ⟨a, m, e, r1, a', m', e', r2, r3⟩ =>
      subst e; subst e'
      rw [dif_neg (by simp)]
      exact ⟨(a :: a' :: m').toArray, rfl, ⟨a, _, rfl, r1, a', m', rfl, r2, r3⟩⟩

end Go.K

namespace Go.K
variable {ρ ρ' ρ₁ : Rho} {S S' S₁ : St} {w w' w₁ : World} {P : Program} {cx : Cx}

theorem onLoop_ok {b : Blk} {k : Nat → Tr V → List Pa → KCode → KCode → Nat → Res V} {v : V} (h : onLoop b k = .ok v S') :
    ∃ done tmps params assign body pending, b = .loop done tmps params assign body pending ∧ k done tmps params assign body pending = .ok v S' := by
  cases b with
  | loop d t p a b q => exact ⟨d, t, p, a, b, q, rfl, h⟩
  | _ => cases h

theorem setParams_ok : ∀ (ts : List Nat) (args : List V) (A : List Value) (env env' : Env) (tmps : Array Value), setParams (ts.map pa) args env = some env' → VsR ρ args A → EnvR ρ env tmps → (∀ t ∈ ts, t < tmps.size) →
    A.length = ts.length ∧ EnvR ρ env' ((ts.zip A).foldl (fun tmps p => tmps.setIfInBounds p.1 p.2) tmps) ∧ ((ts.zip A).foldl (fun tmps p => tmps.setIfInBounds p.1 p.2) tmps).size = tmps.size
  | [], [], A, env, env', tmps, h, hA, he, hin => by
    cases h
    rw [show A = [] from hA]
    exact ⟨rfl, he, rfl⟩
  | [], _ :: _, A, env, env', tmps, h, hA, he, hin => by cases h
  | t :: ts, [], A, env, env', tmps, h, hA, he, hin => by cases h
  | t :: ts, v :: vs, A, env, env', tmps, h, ⟨a, m, e, r, rs⟩, he, hin => by
    subst e
    have h : setParams (ts.map pa) vs (Tr.set (some v) env (pa t)) = some env' := h
    have hput := (EnvR.put (a := ⟨tmps, []⟩) (d := some t) (q := some (pa t)) (v' := a) he (by
      show bIf (Nat.blt t tmps.size) (some (some (pa t))) none = some (some (pa t))
      rw [show Nat.blt t tmps.size = true from Nat.ble_eq_true_of_le (hin t (by simp))]; rfl) r)
    obtain ⟨h1, h2, h3⟩ := setParams_ok ts vs m _ env' (tmps.setIfInBounds t a) h rs hput.1 (fun t' ht => by simp; exact hin t' (by simp [ht]))
    exact ⟨by simp [h1], h2, by rw [List.zip_cons_cons, List.foldl_cons, h3]; simp⟩

end Go.K

namespace Go.K
variable {ρ ρ' ρ₁ : Rho} {S S' S₁ : St} {w w' w₁ : World} {P : Program} {cx : Cx} {cc : CC}

/-! code that writes nothing -/
theorem quietOp_step {cf : CF} {o : KOper} {fr fr' : Fr} (h : quietOp o = true) (hs : step cf o fr S = .ok fr' S') : S' = S := by
  cases o with
  | ev c g d op =>
    have hle : op.touches ≤ 1 := Nat.le_of_ble_eq_true h
    rcases step_ev hs with ⟨_, v, hev, _⟩ | ⟨_, hS, _⟩
    · exact read_ev op _ hle _ _ _ hev
    · exact hS
  | _ => cases h

theorem quiet_steps {cf : CF} : ∀ (l : List KOper) (fr fr' : Fr) (S S' : St), lall quietOp l = true → steps cf l fr S = .ok fr' S' → S' = S
  | [], fr, fr', S, S', _, h => by cases h; rfl
  | o :: l, fr, fr', S, S', hq, h => by
    obtain ⟨fr₁, S₁, h1, h2⟩ := resBind_ok (show resBind (step cf o fr S) (steps cf l) = .ok fr' S' from h)
    have hq' := (lall_iff _ _).1 hq
    have e1 := quietOp_step (hq' o (by simp)) h1
    subst e1
    exact quiet_steps l fr₁ fr' _ S' ((lall_iff _ _).2 fun x hx => hq' x (by simp [hx])) h2

theorem quiet_exec {cf : CF} {lf : Nat} : ∀ (k : KCode) (fr : Fr) (S : St) (p : Exit × Fr) (S' : St), quietC k = true → exec cf lf k fr S = .ok p S' → S' = S
  | .skip, fr, S, p, S', _, h => by have h : Res.ok (Exit.normal, fr) S = .ok p S' := h; cases h; rfl
  | .region ops, fr, S, p, S', hq, h => by
    obtain ⟨fr', S₁, h1, h2⟩ := resBind_ok (show resBind (steps cf ops fr S) (fun fr s => Res.ok (Exit.normal, fr) s) = .ok p S' from h)
    cases h2
    exact quiet_steps ops fr fr' S S' hq h1
  | .regionD _, _, _, _, _, hq, _ => by cases hq
  | .seq a b, fr, S, p, S', hq, h => by
    obtain ⟨qa, qb⟩ : quietC a = true ∧ quietC b = true := by simpa using (show band (quietC a) (quietC b) = true from hq)
    obtain ⟨p₁, S₁, e1, e2⟩ := resBind_ok (show resBind (exec cf lf a fr S) (fun p s => exitSw p.1 (exec cf lf b p.2 s) (.ok p s)) = .ok p S' from h)
    have := quiet_exec a fr S p₁ S₁ qa e1
    subst this
    rcases exitSw_ok e2 with ⟨_, e2⟩ | ⟨_, e2⟩
    · exact quiet_exec b _ _ _ _ qb e2
    · cases e2; rfl
  | .cond c a b, fr, S, p, S', hq, h => by
    obtain ⟨qa, qb⟩ : quietC a = true ∧ quietC b = true := by simpa using (show band (quietC a) (quietC b) = true from hq)
    obtain ⟨t, hv, he⟩ := onBool_ok (show onBool (fr.env.look c) (exec cf lf a fr S) (exec cf lf b fr S) = .ok p S' from h)
    cases t with
    | true => exact quiet_exec a fr S p S' qa he
    | false => exact quiet_exec b fr S p S' qb he
  | .block id c, fr, S, p, S', hq, h => by
    obtain ⟨p₁, S₁, e1, e2⟩ := resBind_ok (show resBind (exec cf lf c fr S) (fun p s => Res.ok (Exit.rec Exit.normal Exit.ret (fun j => bIf (Nat.beq j id) Exit.normal (Exit.exit j)) p.1, p.2) s) = .ok p S' from h)
    cases e2
    exact quiet_exec c fr S p₁ S' hq e1
  | .loop _, _, _, _, _, hq, _ => by cases hq
  | .rangeFunc _ _ _ _, _, _, _, _, hq, _ => by cases hq
  | .exit id, fr, S, p, S', _, h => by have h : Res.ok (Exit.exit id, fr) S = .ok p S' := h; cases h; rfl
  | .ret, fr, S, p, S', _, h => by have h : Res.ok (Exit.ret, fr) S = .ok p S' := h; cases h; rfl
  | .mapLit _ _, _, _, _, _, hq, _ => by cases hq
  | .loopM _ _ _ _, _, _, _, _, hq, _ => by cases hq

/-! what comes next of a map -/
theorem collect_mem {α β : Type} {f : α → Option (List β)} : ∀ {l : List α} {r : List β}, collect f l = some r → ∀ a ∈ l, ∃ x, f a = some x ∧ ∀ y ∈ x, y ∈ r
  | [], r, h, a, ha => by cases ha
  | b :: l, r, h, a, ha => by
    obtain ⟨x, hx, h⟩ := obind_some (show obind (f b) (fun x => obind (collect f l) fun y => some (lapp x y)) = some r from h)
    obtain ⟨y, hy, h⟩ := obind_some h
    cases h
    rw [lapp_eq]
    rcases List.mem_cons.1 ha with rfl | ha
    · exact ⟨x, hx, fun z hz => List.mem_append_left _ hz⟩
    · obtain ⟨x', h1, h2⟩ := collect_mem hy a ha
      exact ⟨x', h1, fun z hz => List.mem_append_right _ (h2 z hz)⟩

theorem picks_some {env : Env} {it : Opd} {b : Pa} {L : List (V × St)} (h : picks env it S = some (b, L)) :
    ∃ m since seen last es clock, env.look it = .ptr b 0 ∧ S.get b = some (.mapIter (some m) since seen last) ∧ S.get m = some (.map es clock) ∧ picksOf S b m since last seen es clock = some L := by
  unfold picks at h
  split at h
  · rename_i b' hl
    obtain ⟨x, hx, h⟩ := obind_some h
    obtain ⟨l, hl', h⟩ := obind_some h
    cases h
    unfold picksIn at hl'
    split at hl'
    · rename_i m since seen last
      obtain ⟨y, hy, hl'⟩ := obind_some hl'
      split at hl'
      · rename_i es clock
        exact ⟨m, since, seen, last, es, clock, hl, hx, hy, hl'⟩
      · cases hl'
    · cases hl'
  · cases h

theorem run_pick (n : Nat) (hn : 0 < n) : ∃ i w1, i < n ∧ (choose (.mapNext n)).run P w = .ok i w1 ∧ sameHeap w w1 := by
  by_cases h1 : n ≤ 1
  · refine ⟨0, w, hn, ?_, rfl, rfl, rfl, rfl⟩
    simp [choose, Sem.run, Question.forced, h1]
  · refine ⟨_, { w with drawn := w.drawn + 1 }, Nat.mod_lt (w.tape w.drawn (.mapNext n)) hn, ?_, rfl, rfl, rfl, rfl⟩
    simp [choose, Sem.run, Question.forced, h1, Question.cut]

theorem next_any {o : Oper} {X : Operand} {x : Opd} (ho : o.op = .next X false) (hx : cOpd X = some x) {env : Env} {a : Act} {b : Pa} {L : List (V × St)} (h : picks env x S = some (b, L)) (hr : Rel cc ρ S w) (hen : EnvR ρ env a.tmps) :
    ∃ p ∈ L, ∃ nx w' v', (execOp a.eval o).run P w = .ok nx w' ∧ nextVal nx = some v' ∧ VR ρ p.1 v' ∧ Sim cc ρ S w ρ p.2 w' := by
  obtain ⟨m, since, seen, last, es, clock, hl, hb, hS, h⟩ := picks_some h
  have vx := opd_sound hx hen
  rw [hl] at vx
  obtain ⟨L0, hL, vx⟩ := vx
  obtain ⟨m', i1, i2, i3⟩ := hr.blk _ _ _ hL hb
  rw [i2] at vx
  obtain ⟨L', hL', i3⟩ := i3
  subst i3
  obtain ⟨es', m1, m2⟩ := hr.mapAt hL' hS
  unfold picksOf at h
  cases hc : band (bnot (isNilL seen)) (band (bnot (isNilL es)) (lall (fun e => Nat.ble last e.born) es)) with
  | true => rw [hc] at h; cases h
  | false =>
    rw [hc] at h
    have h : bIf (isNilL (unseen seen es)) (some [(V.tup [.bool false], S)]) (bIf (lall (fun e => Nat.blt e.born since) (unseen seen es)) (some (lmap (fun e => (V.tup [.bool true, e.key, e.val], S.put b (.mapIter (some m) since (lapp seen [e.born]) clock))) (unseen seen es))) none) = some L := h
    have hguard : (!seen.toArray.isEmpty && !es'.isEmpty && es'.all (fun e => decide (e.born ≥ last))) = false := by
      rw [isNil_array, m2.isNil]
      have h1 : es'.all (fun e => decide (e.born ≥ last)) = lall (fun e => Nat.ble last e.born) es := by
        rw [lall_eq, ← Array.all_toList]
        have := EntsR.all (fun n => decide (n ≥ last)) m2
        rw [this]
        congr 1
        funext e
        by_cases h : last ≤ e.born
        · rw [Nat.ble_eq_true_of_le h]; simpa using h
        · have : Nat.ble last e.born = false := by
            cases hb : Nat.ble last e.born with
            | false => rfl
            | true => exact absurd (Nat.le_of_ble_eq_true hb) h
          rw [this]; simpa using h
      rw [h1, ← hc]
      cases isNilL seen <;> cases isNilL es <;> cases lall (fun e => Nat.ble last e.born) es <;> rfl
    have hleft := EntsR.filter (fun n => !(seen.contains n)) m2
    rw [← unseen_eq] at hleft
    have hfl : (es'.filter fun e => !(seen.toArray.contains e.born)).toList = es'.toList.filter fun e => !(seen.contains e.born) := by
      rw [Array.toList_filter]; congr 1; funext e; simp
    cases hu : isNilL (unseen seen es) with
    | true =>
      rw [hu] at h
      cases h
      have hun : unseen seen es = [] := by
        cases hx : unseen seen es with
        | nil => rfl
        | cons _ _ => rw [hx] at hu; cases hu
      rw [hun] at hleft
      have hnil : (es'.filter fun e => !(seen.toArray.contains e.born)) = #[] := by
        apply Array.ext'
        rw [hfl]; exact hleft
      refine ⟨_, List.mem_singleton.2 rfl, .value (.tuple #[.bool false]), w, .tuple #[.bool false], ?_, rfl, ⟨_, rfl, ⟨_, [], rfl, rfl, rfl⟩⟩, Sim.refl hr⟩
      simp only [execOp, ho, vx, Instr.next, Sem.run_bind, Nat.add_zero, run_getIter i1, Result.andThen_ok, run_getMap m1, hguard, hnil]
      simp [Question.forced]
    | false =>
      rw [hu] at h
      obtain ⟨hold, h⟩ := bIf_none (show bIf (lall (fun e => Nat.blt e.born since) (unseen seen es)) (some (lmap (fun e => (V.tup [.bool true, e.key, e.val], S.put b (.mapIter (some m) since (lapp seen [e.born]) clock))) (unseen seen es))) none = some L from h)
      cases h
      have holdA : ∀ e' ∈ (es'.filter fun e => !(seen.toArray.contains e.born)), e'.born < since := fun e' he' => by
        have he'' : e' ∈ (es'.filter fun e => !(seen.toArray.contains e.born)).toList := by simpa using he'
        rw [hfl] at he''
        obtain ⟨i, hi⟩ := List.getElem?_of_mem he''
        have hlen := hleft.length
        have hil : i < (unseen seen es).length := by rw [← hlen]; exact (List.getElem?_eq_some_iff.1 hi).1
        obtain ⟨e2, g1, g2⟩ := hleft.get (List.getElem?_eq_getElem hil)
        rw [hi] at g1; cases g1
        have := (lall_iff _ _).1 hold _ (List.getElem_mem hil)
        rw [g2.2.2]
        exact Nat.le_of_ble_eq_true this
      generalize hA : (es'.filter fun e => !(seen.toArray.contains e.born)) = A at holdA
      rw [hA] at hfl
      rw [← hfl] at hleft
      have hsz : A.size = (unseen seen es).length := by have := hleft.length; simpa using this
      have hpos : 0 < A.size := by
        rw [hsz]
        cases hx : unseen seen es with
        | nil => rw [hx] at hu; cases hu
        | cons _ _ => simp
      have hold2 : A.filter (fun e => decide (e.born < since)) = A := by
        apply Array.ext'
        rw [Array.toList_filter, List.filter_eq_self]
        intro e he
        exact decide_eq_true (holdA e (by simpa using he))
      have hnew2 : A.filter (fun e => decide (e.born ≥ since)) = #[] := by
        apply Array.ext'
        rw [Array.toList_filter]
        show _ = []
        rw [List.filter_eq_nil_iff]
        intro e he hd
        have h1 := holdA e (by simpa using he)
        have h2 : since ≤ e.born := by simpa using hd
        omega
      obtain ⟨i, w1, hi, hrun, hsame⟩ := run_pick (P := P) (w := w) A.size hpos
      have hiu : i < (unseen seen es).length := by omega
      obtain ⟨e', g1, g2, g3, g4⟩ := hleft.get (List.getElem?_eq_getElem hiu)
      have hAi : A[i]? = some e' := by rw [← Array.getElem?_toList]; exact g1
      have hs1 : Sim cc ρ S w ρ S w1 := Sim.same hr hsame
      have i1' : w1.heap[L0.blk]? = some (.mapIter (some L'.blk) since seen.toArray last) := by rw [hsame.1]; exact i1
      refine ⟨(V.tup [.bool true, (unseen seen es)[i].key, (unseen seen es)[i].val], S.put b (.mapIter (some m) since (lapp seen [(unseen seen es)[i].born]) clock)), ?_, .value (.tuple #[.bool true, e'.key, e'.val]),
        setHeap w1 L0.blk (.mapIter (some L'.blk) since (seen.toArray.push e'.born) clock), .tuple #[.bool true, e'.key, e'.val], ?_, rfl, ⟨_, rfl, ⟨_, _, rfl, rfl, _, _, rfl, g2, _, [], rfl, g3, rfl⟩⟩, hs1.trans ?_⟩
      · rw [lmap_eq]
        exact List.mem_map.2 ⟨(unseen seen es)[i], List.getElem_mem hiu, rfl⟩
      · have hcand : ((if A.isEmpty = true then #[none] else #[]) ++ (A ++ #[]).map some : Array (Option MapEntry)) = A.map some := by
          have : A.isEmpty = false := by simpa using fun h => by rw [h] at hpos; simp at hpos
          rw [this]; simp
        simp only [execOp, ho, vx, Instr.next, Sem.run_bind, Nat.add_zero, run_getIter i1, Result.andThen_ok, run_getMap m1, hguard, hA, hold2, hnew2, hcand, Array.size_map, hrun, Array.getElem?_map, hAi, Option.map_some, Bool.false_eq_true, if_false, run_setIter _ i1', Sem.run_pure]
      · refine sim_mod hs1.rel hL hb (fun j hj => setHeap_ne hj) (setHeap_size _ _) rfl rfl rfl rfl (fun h => by cases h) ⟨some L'.blk, ?_, i2, L', hL', rfl⟩ (fun ⟨lp, hl⟩ => (by rw [i1'] at hl; cases hl))
        rw [setHeap_at i1', lapp_eq, g4]
        simp

end Go.K

namespace Go.K
variable {ρ ρ' ρ₁ : Rho} {S S' S₁ : St} {w w' w₁ : World} {P : Program} {cx : Cx} {cc : CC}

/-- how code is left that has several outcomes -/
def PostL (cc : CC) (lo N : Nat) (ρ : Rho) (S : St) (w : World) (L : List (Exit × Fr)) (S' : St) : Go.Exit → Act → World → Prop :=
  fun e a' w' => ∃ p ∈ L, PostX cc lo N ρ S w p S' e a' w'

theorem nextFirst_ok {c : Code} (h : nextFirst c = true) : ∃ id ops c2 o X, c = .seq (.region id ops false) c2 ∧ ops[0]? = some o ∧ o.op = .next X false := by
  unfold nextFirst at h
  split at h
  · rename_i id ops c2
    split at h
    · rename_i o ho
      split at h
      · rename_i X hX
        exact ⟨id, ops, c2, o, X, rfl, ho, hX⟩
      · cases h
    · cases h
  · cases h

theorem mkLoop_M {ok : Bool} {k : KCode} {d : Pa} {it : Opd} {ops : List KOper} {rest : KCode} (h : mkLoop ok k = .loopM d it ops rest) : ok = true ∧ k = .seq (.region (.ev .pure none (some d) (.nextMap it) :: ops)) rest := by
  unfold mkLoop at h
  split at h
  · cases ok with
    | false => cases h
    | true => cases h; exact ⟨rfl, rfl⟩
  · cases h

theorem mkLoop_not {ok : Bool} {k : KCode} : (∃ d it ops rest, mkLoop ok k = .loopM d it ops rest) ∨ mkLoop ok k = .loop k := by
  unfold mkLoop
  split
  · cases ok with
    | false => exact .inr rfl
    | true => exact .inl ⟨_, _, _, _, rfl⟩
  · exact .inr rfl

theorem picks_next {env : Env} {it : Opd} {b : Pa} {L : List (V × St)} (h : picks env it S = some (b, L)) : ∀ p ∈ L, p.2.next = S.next ∧ ∀ id, id ≠ b → p.2.get id = S.get id := by
  obtain ⟨m, since, seen, last, es, clock, _, _, _, h⟩ := picks_some h
  unfold picksOf at h
  rw [bIf_eq] at h
  split at h
  · cases h
  · rw [bIf_eq] at h
    split at h
    · cases h
      intro p hp
      rw [List.mem_singleton.1 hp]
      exact ⟨rfl, fun _ _ => rfl⟩
    · obtain ⟨_, h⟩ := bIf_none h
      cases h
      intro p hp
      rw [lmap_eq] at hp
      obtain ⟨e, _, rfl⟩ := List.mem_map.1 hp
      exact ⟨rfl, fun id hid => by rw [St.get_put, if_neg (Ne.symm hid)]⟩

/-- a loop over a map, whatever the order is -/
theorem loopM_ok (hcx : CxI P cx) (hm : P.follows .mixedOrders = true) {cf : CF} (hcf : CFOk (ccOf cx) P cf) {fid N : Nat} {c : Code} {d : Pa} {it : Opd} {kops : List KOper} {rest : KCode}
    (hc : cCode cx fid N c = some (.seq (.region (.ev .pure none (some d) (.nextMap it) :: kops)) rest)) (hn : nextFirst c = true) (hq : lall quietOp kops = true) (hqr : quietC rest = true) {n lf lo : Nat} {fr : Fr} {b : Pa} {L : List (Exit × Fr)} {a : Act} {ρ : Rho} {S : St} {w : World}
    (ho : outsM cf lf d b it kops rest lf fr S = some L) (hlo : lo ≤ w.heap.size) (hr : Rel (ccOf cx) ρ S w) (hfr : FrR lo N ρ S w fr a) (ht : Top S ρ) :
    (Code.loop c).wpIn Fence.wide n P (PostL (ccOf cx) lo N ρ S w L (S.kill b)) a w := by
  obtain ⟨id, ops, c2, o0, X, rfl, ho0, hX⟩ := nextFirst_ok hn
  obtain ⟨k1, hk1, hc⟩ := obind_some (show obind (cCode cx fid N (.region id ops false)) (fun a => obind (cCode cx fid N c2) fun b => some (KCode.seq a b)) = some _ from hc)
  obtain ⟨k2, hk2, hc⟩ := obind_some hc
  cases hc
  obtain ⟨l, hl, hk1⟩ := obind_some (show cRegion cx fid N ops.toList false = some _ from hk1)
  cases hk1
  obtain ⟨hlen, hget⟩ := omap_some hl
  have hcode2 := code_ok hcx hcf (drawn_ok hcx hm hcf) fid N c2 rest hk2
  have hsz : ops.size = kops.length + 1 := by have : ops.size = ops.toList.length := by simp
                                              rw [this, ← hlen, List.length_cons]
  have hgetO : ∀ i ko, (KOper.ev .pure none (some d) (.nextMap it) :: kops)[i]? = some ko → ∃ o, ops[i]? = some o ∧ cOper cx fid N ops.toList .pure o = some ko := fun i ko hi => by
    have hi' : i < ops.toList.length := by rw [← hlen]; exact (List.getElem?_eq_some_iff.1 hi).1
    obtain ⟨b, hb, hfb⟩ := hget i ops.toList[i] (List.getElem?_eq_getElem hi')
    rw [hb] at hi; cases hi
    exact ⟨ops.toList[i], by rw [← Array.getElem?_toList]; exact List.getElem?_eq_getElem hi', hfb⟩
  -- the first operation
  obtain ⟨o1, ho1, hco1⟩ := hgetO 0 _ rfl
  rw [ho0] at ho1; cases ho1
  obtain ⟨g, dd, hg, hd, hcase⟩ := cOper_some hco1
  have hitX : cOpd X = some it ∧ g = none ∧ dd = some d := by
    rcases hcase with ⟨k, hk, hko, _⟩ | ⟨c', kc, l', hoc, _⟩ | ⟨c', X', f, l', hoc, _⟩
    · injection hko with _ e1 e2 e3
      subst e3
      rw [hX] at hk
      obtain ⟨y, hy, hk⟩ := obind_some (show obind (cOpd X) (fun y => some (KOp.nextMap y)) = some (.nextMap it) from hk)
      cases hk
      exact ⟨hy, e1.symm, e2.symm⟩
    · rw [hX] at hoc; cases hoc
    · rw [hX] at hoc; cases hoc
  obtain ⟨hitX, rfl, rfl⟩ := hitX
  refine wpIn_loop_n (fun j a' w' => ∃ fr₁ S₁ ρ₁ L₁, outsM cf lf d b it kops rest j fr₁ S₁ = some L₁ ∧ (∀ p ∈ L₁, p ∈ L) ∧ Sim (ccOf cx) ρ S w ρ₁ S₁ w' ∧ FrR lo N ρ₁ S₁ w' fr₁ a' ∧ Top S₁ ρ₁ ∧ S₁.next = S.next ∧ ∀ id, id ≠ b → S₁.get id = S.get id) lf
    ⟨fr, S, ρ, L, ho, fun _ h => h, Sim.refl hr, hfr, ht, rfl, fun _ _ => rfl⟩ fun j a' w' ⟨fr₁, S₁, ρ₁, L₁, e1, hsub, hs, hfr₁, ht₁, hnx, hgt⟩ => ?_
  cases j with
  | zero => cases e1
  | succ j =>
    obtain ⟨⟨b', Lp⟩, hp, e1⟩ := obind_some (show obind (picks fr₁.env it S₁) (fun q => bIf (Pa.beq q.1 b) (collect (fun p => match bodyM cf lf d kops rest p.1 fr₁ p.2 with
      | .ok (.normal, fr') s' => outsM cf lf d b it kops rest j fr' s'
      | .ok r _ => some [r]
      | .err _ => none) q.2) none) = some L₁ from e1)
    obtain ⟨hbb, e1⟩ := bIf_none e1
    have hbb := (Pa.beq_iff _ _).1 hbb
    subst hbb
    refine wpIn_seq (wpIn_region ?_)
    rw [List.range_eq_range', hsz, List.range'_succ, wpOpsIn_cons]
    unfold wpOpIn
    simp only [ho0]
    have hwant : Region.wanted o0 (yielded ops a'.tmps) = true := by
      have := wanted_eq (ops := ops) hfr₁.env hg
      rw [← this]; rfl
    rw [if_pos hwant]
    refine ⟨fun f _ => trivial, ?_⟩
    rw [Oper.semAt_eq _ _ _ (fun c' h => by rw [hX] at h; cases h)]
    obtain ⟨p, hpm, nx, w1, v', hrun, hnv, hvr, hs1⟩ := next_any (P := P) hX hitX hp hs.rel hfr₁.env
    rw [hrun]
    refine upon_next hnv ?_
    have hfr2 : FrR lo N ρ₁ p.2 w1 ⟨putD fr₁.env (some d) p.1, fr₁.defers⟩ (a'.put o0.dst v') := hfr₁.put hs1 (fun _ _ h => h) hd hvr
    have ht2 : Top p.2 ρ₁ := ht₁.sim hs1
    obtain ⟨x, hx, hxL⟩ := collect_mem e1 p hpm
    cases hb2 : bodyM cf lf d kops rest p.1 fr₁ p.2 with
    | err c => rw [hb2] at hx; cases hx
    | ok r S3 =>
      rw [hb2] at hx
      obtain ⟨fr3, S2, hst, hex⟩ := resBind_ok (show resBind (steps cf kops ⟨putD fr₁.env (some d) p.1, fr₁.defers⟩ p.2) (fun fr s => exec cf lf rest fr s) = .ok r S3 from hb2)
      have e2 := quiet_steps kops _ _ _ _ hq hst
      have e3 := quiet_exec rest _ _ _ _ hqr hex
      obtain ⟨pn, pg⟩ := picks_next hp p hpm
      refine steps_sound (fid := fid) (ops := ops) hcx hcf (.inl rfl) n kops.length 1 kops _ p.2 ρ₁ _ w1 rfl (fun i ko hi => ?_) (.inl rfl) hst hs1.rel hfr2 ht2 fun ρ3 a3 w3 hs3 hfr3 ht3 => ?_
      · obtain ⟨o, h1, h2⟩ := hgetO (i + 1) ko (by simpa using hi)
        exact ⟨o, by rw [Nat.add_comm]; exact h1, h2⟩
      · have hlo3 : lo ≤ w3.heap.size := Nat.le_trans hlo (Nat.le_trans hs.frm.size (Nat.le_trans hs1.frm.size hs3.frm.size))
        refine wpIn_mono (hcode2 Fence.wide n lf lo fr3 S2 r S3 ρ3 a3 w3 (.inl rfl) (.inl rfl) (fun l hl => by cases hl) hlo3 hex hs3.rel hfr3 ht3) fun e a4 w4 hq4 => ?_
        obtain ⟨ρ4, he, hs4, hfr4, ht4⟩ := hq4
        have hsum := ((hs.trans hs1).trans hs3).trans hs4
        have hn3 : S3.next = S.next := by rw [e3, e2, pn, hnx]
        have hg3 : ∀ id, id ≠ b' → S3.get id = S.get id := fun id hid => by rw [e3, e2, pg id hid, hgt id hid]
        obtain ⟨x1, fr5⟩ := r
        have leave : x1 ≠ .normal → PostL (ccOf cx) lo N ρ S w L (S.kill b') e a4 w4 := fun hx1 => by
          have hin : (x1, fr5) ∈ L := by
            cases x1 with
            | normal => exact absurd rfl hx1
            | ret => cases hx; exact hsub _ (hxL _ (List.mem_singleton.2 rfl))
            | exit i => cases hx; exact hsub _ (hxL _ (List.mem_singleton.2 rfl))
          have hk : Sim (ccOf cx) ρ S w ρ4 (S.kill b') w4 := hsum.alter hn3.symm fun id L0 bb h1 h2 => by
            rw [St.get_kill] at h2
            split at h2
            · cases h2
            · rename_i hne
              exact .inl (by rw [hg3 id (Ne.symm hne)]; exact h2)
          exact ⟨(x1, fr5), hin, ρ4, he, hk, ⟨hfr4.env, hfr4.size, hfr4.defs.any hk.rel⟩, ht.sim hk⟩
        cases x1 with
        | normal =>
          subst he
          exact ⟨j, Nat.lt_succ_self j, fr5, S3, ρ4, x, hx, fun q hq' => hsub q (hxL q hq'), hsum, hfr4, ht4, hn3, hg3⟩
        | ret =>
          have := leave (by simp)
          subst he
          exact this
        | exit i =>
          have := leave (by simp)
          subst he
          exact this

end Go.K

namespace Go.K
variable {ρ ρ' ρ₁ : Rho} {S S' S₁ : St} {w w' w₁ : World} {P : Program} {cx : Cx} {cc : CC}

def noM : KCode → Bool
  | .seq a b => noM a && noM b
  | .block _ c => noM c
  | .loopM _ _ _ _ => false
  | _ => true

theorem execM_seq {cf : CF} {lf : Nat} {a b : KCode} {fr : Fr} {L : List (Exit × Fr)} (h : execM cf lf (.seq a b) fr S = .ok L S') :
    ∃ L₁ S₁, execM cf lf a fr S = .ok L₁ S₁ ∧ ((∃ p, L₁ = [p] ∧ ((p.1 = .normal ∧ execM cf lf b p.2 S₁ = .ok L S') ∨ (p.1 ≠ .normal ∧ L = [p] ∧ S' = S₁))) ∨
      (quietC b = true ∧ S' = S₁ ∧ goM (exec cf lf b) S₁ L₁ = some L)) := by
  rw [execM] at h
  split at h
  · rename_i p S₁ h1
    refine ⟨_, _, h1, .inl ⟨p, rfl, ?_⟩⟩
    obtain ⟨x, f⟩ := p
    cases x with
    | normal => exact .inl ⟨rfl, h⟩
    | ret => cases h; exact .inr ⟨by simp, rfl, rfl⟩
    | exit i => cases h; exact .inr ⟨by simp, rfl, rfl⟩
  · rename_i l S₁ _ h1
    obtain ⟨hq, h⟩ := bIf_err h
    obtain ⟨l2, hl2, h⟩ := rbind_ok h
    cases h
    exact ⟨_, _, h1, .inr ⟨hq, rfl, hl2⟩⟩
  · cases h

theorem execM_block {cf : CF} {lf id : Nat} {c : KCode} {fr : Fr} {L : List (Exit × Fr)} (h : execM cf lf (.block id c) fr S = .ok L S') : ∃ L₁, execM cf lf c fr S = .ok L₁ S' ∧ L = L₁.map (blockExit id) := by
  rw [execM] at h
  split at h
  · rename_i l s h1
    cases h
    exact ⟨l, h1, rfl⟩
  · cases h

theorem execM_one {cf : CF} {lf : Nat} {k : KCode} {fr : Fr} {L : List (Exit × Fr)} (e : execM cf lf k fr S = resBind (exec cf lf k fr S) fun p s => .ok [p] s) (h : execM cf lf k fr S = .ok L S') : ∃ p, L = [p] ∧ exec cf lf k fr S = .ok p S' := by
  rw [e] at h
  obtain ⟨p, S₁, h1, h⟩ := resBind_ok h
  cases h
  exact ⟨p, rfl, h1⟩

theorem execM_no {cf : CF} {lf : Nat} : ∀ (k : KCode) (fr : Fr) (S : St) (L : List (Exit × Fr)) (S' : St), noM k = true → execM cf lf k fr S = .ok L S' → ∃ p, L = [p] ∧ exec cf lf k fr S = .ok p S'
  | .seq a b, fr, S, L, S', hn, h => by
    obtain ⟨na, nb⟩ : noM a = true ∧ noM b = true := by simpa [noM] using hn
    obtain ⟨L₁, S₁, h1, h2⟩ := execM_seq h
    obtain ⟨p, rfl, hp⟩ := execM_no a fr S L₁ S₁ na h1
    have e : exec cf lf (.seq a b) fr S = resBind (exec cf lf a fr S) (fun p s => exitSw p.1 (exec cf lf b p.2 s) (.ok p s)) := rfl
    rw [e, hp]
    obtain ⟨x, f⟩ := p
    rcases h2 with ⟨p', e1, h2⟩ | ⟨hq, rfl, hg⟩
    · injection e1 with e1 _
      subst e1
      rcases h2 with ⟨hx, h2⟩ | ⟨hx, rfl, rfl⟩
      · have hx : x = .normal := hx
        subst hx
        exact execM_no b f S₁ L S' nb h2
      · cases x with
        | normal => exact absurd rfl hx
        | ret => exact ⟨_, rfl, rfl⟩
        | exit i => exact ⟨_, rfl, rfl⟩
    · obtain ⟨y, hy, hg⟩ := obind_some hg
      obtain ⟨z, hz, hg⟩ := obind_some hg
      cases hz
      cases hg
      cases x with
      | normal =>
        have hy : (match exec cf lf b f S' with | .ok q _ => some [q] | .err _ => none) = some y := hy
        cases he : exec cf lf b f S' with
        | err c => rw [he] at hy; cases hy
        | ok q S2 =>
          rw [he] at hy
          cases hy
          have := quiet_exec b _ _ _ _ hq he
          subst this
          exact ⟨q, rfl, he⟩
      | ret => cases hy; exact ⟨_, rfl, rfl⟩
      | exit i => cases hy; exact ⟨_, rfl, rfl⟩
  | .block id c, fr, S, L, S', hn, h => by
    obtain ⟨L₁, h1, rfl⟩ := execM_block h
    obtain ⟨p, rfl, hp⟩ := execM_no c fr S L₁ S' hn h1
    refine ⟨blockExit id p, rfl, ?_⟩
    have e : exec cf lf (.block id c) fr S = resBind (exec cf lf c fr S) (fun p s => .ok (Exit.rec .normal .ret (fun j => bIf (Nat.beq j id) .normal (.exit j)) p.1, p.2) s) := rfl
    rw [e, hp]; rfl
  | .loopM _ _ _ _, fr, S, L, S', hn, h => by cases hn
  | .skip, fr, S, L, S', _, h => execM_one rfl h
  | .region _, fr, S, L, S', _, h => execM_one rfl h
  | .regionD _, fr, S, L, S', _, h => execM_one rfl h
  | .cond _ _ _, fr, S, L, S', _, h => execM_one rfl h
  | .loop _, fr, S, L, S', _, h => execM_one rfl h
  | .rangeFunc _ _ _ _, fr, S, L, S', _, h => execM_one rfl h
  | .exit _, fr, S, L, S', _, h => execM_one rfl h
  | .ret, fr, S, L, S', _, h => execM_one rfl h
  | .mapLit _ _, fr, S, L, S', _, h => execM_one rfl h

theorem region_noM {fid N id : Nat} {ops : Array Oper} {draw : Bool} {k : KCode} (h : cCode cx fid N (.region id ops draw) = some k) : noM k = true := by
  obtain ⟨l, hl, h⟩ := obind_some (show cRegion cx fid N ops.toList draw = some k from h)
  cases draw with
  | false => cases h; rfl
  | true =>
    have h : orElse (cMapLit ops.toList (befores ops.toList []) l) (cRegionD ops.toList (befores ops.toList []) l) = some k := h
    cases hlit : cMapLit ops.toList (befores ops.toList []) l with
    | some k' =>
      rw [hlit] at h
      cases h
      obtain ⟨m, ps, rest, tl, c, _, _, _, _, _, rfl⟩ := cMapLit_ok hlit
      rfl
    | none =>
      rw [hlit] at h
      obtain ⟨_, h⟩ := bIf_none (show cRegionD ops.toList (befores ops.toList []) l = some k from h)
      cases h; rfl

theorem codeM_ok (hcx : CxI P cx) (hm : P.follows .mixedOrders = true) {cf : CF} (hcf : CFOk (ccOf cx) P cf) (fid N : Nat) : ∀ (c : Code) (k : KCode), cCode cx fid N c = some k →
    ∀ (n lf lo : Nat) (fr : Fr) (S : St) (L : List (Exit × Fr)) (S' : St) (ρ : Rho) (a : Act) (w : World), lo ≤ w.heap.size → execM cf lf k fr S = .ok L S' → Rel (ccOf cx) ρ S w → FrR lo N ρ S w fr a → Top S ρ →
      c.wpIn Fence.wide n P (PostL (ccOf cx) lo N ρ S w L S') a w := by
  have plain : ∀ (c : Code) (k : KCode), cCode cx fid N c = some k → noM k = true → ∀ (n lf lo : Nat) (fr : Fr) (S : St) (L : List (Exit × Fr)) (S' : St) (ρ : Rho) (a : Act) (w : World), lo ≤ w.heap.size → execM cf lf k fr S = .ok L S' → Rel (ccOf cx) ρ S w → FrR lo N ρ S w fr a → Top S ρ →
      c.wpIn Fence.wide n P (PostL (ccOf cx) lo N ρ S w L S') a w := fun c k hc hn n lf lo fr S L S' ρ a w hlo hex hr hfr ht => by
    obtain ⟨p, rfl, hp⟩ := execM_no k fr S L S' hn hex
    exact wpIn_mono (code_ok hcx hcf (drawn_ok hcx hm hcf) fid N c k hc Fence.wide n lf lo fr S p S' ρ a w (.inl rfl) (.inl rfl) (fun l hl => by cases hl) hlo hp hr hfr ht) fun e a' w' h => ⟨p, List.mem_singleton.2 rfl, h⟩
  intro c
  induction c with
  | seq c d ihc ihd =>
    intro k hk n lf lo fr S L S' ρ a w hlo hex hr hfr ht
    obtain ⟨kc, hc, hk⟩ := obind_some (show obind (cCode cx fid N c) (fun a => obind (cCode cx fid N d) fun b => some (KCode.seq a b)) = some k from hk)
    obtain ⟨kd, hd, hk⟩ := obind_some hk
    cases hk
    obtain ⟨L₁, S₁, h1, h2⟩ := execM_seq hex
    refine wpIn_seq (wpIn_mono (ihc kc hc n lf lo fr S L₁ S₁ ρ a w hlo h1 hr hfr ht) fun e a' w' ⟨p, hp, ρ₁, he, hs, hfr₁, ht₁⟩ => ?_)
    have hlo1 : lo ≤ w'.heap.size := Nat.le_trans hlo hs.frm.size
    obtain ⟨x, f⟩ := p
    have leave : x ≠ .normal → (x, f) ∈ L → S' = S₁ → Go.Exit.then (fun a₁ w₁ => d.wpIn Fence.wide n P (PostL (ccOf cx) lo N ρ S w L S') a₁ w₁) (PostL (ccOf cx) lo N ρ S w L S') e a' w' := fun hx hin hS => by
      subst hS
      have : PostL (ccOf cx) lo N ρ S w L S' e a' w' := ⟨(x, f), hin, ρ₁, he, hs, hfr₁, ht₁⟩
      cases x with
      | normal => exact absurd rfl hx
      | ret => subst he; exact this
      | exit i => subst he; exact this
    rcases h2 with ⟨p', rfl, h2⟩ | ⟨hq, rfl, hg⟩
    · have hp' := List.mem_singleton.1 hp
      subst hp'
      rcases h2 with ⟨hx, h2⟩ | ⟨hx, rfl, hS⟩
      · have hx : x = .normal := hx
        subst hx
        subst he
        exact wpIn_mono (ihd kd hd n lf lo f S₁ L S' ρ₁ a' w' hlo1 h2 hs.rel hfr₁ ht₁) fun e a'' w'' ⟨q, hq, ρ₂, g1, g2, g3, g4⟩ => ⟨q, hq, ρ₂, g1, hs.trans g2, g3, g4⟩
      · exact leave hx (List.mem_singleton.2 rfl) hS
    · obtain ⟨y, hy, hyL⟩ := collect_mem hg (x, f) hp
      cases x with
      | normal =>
        have hy : (match exec cf lf kd f S' with | .ok q _ => some [q] | .err _ => none) = some y := hy
        cases he2 : exec cf lf kd f S' with
        | err c => rw [he2] at hy; cases hy
        | ok q S2 =>
          rw [he2] at hy
          cases hy
          have := quiet_exec kd _ _ _ _ hq he2
          subst this
          subst he
          exact wpIn_mono (code_ok hcx hcf (drawn_ok hcx hm hcf) fid N d kd hd Fence.wide n lf lo f S2 q S2 ρ₁ a' w' (.inl rfl) (.inl rfl) (fun l hl => by cases hl) hlo1 he2 hs.rel hfr₁ ht₁) fun e a'' w'' ⟨ρ₂, g1, g2, g3, g4⟩ =>
            ⟨q, hyL q (List.mem_singleton.2 rfl), ρ₂, g1, hs.trans g2, g3, g4⟩
      | ret => cases hy; exact leave (by simp) (hyL _ (List.mem_singleton.2 rfl)) rfl
      | exit i => cases hy; exact leave (by simp) (hyL _ (List.mem_singleton.2 rfl)) rfl
  | block id c ih =>
    intro k hk n lf lo fr S L S' ρ a w hlo hex hr hfr ht
    obtain ⟨kc, hc, hk⟩ := obind_some (show obind (cCode cx fid N c) (fun c => some (KCode.block id c)) = some k from hk)
    cases hk
    obtain ⟨L₁, h1, rfl⟩ := execM_block hex
    refine wpIn_block (wpIn_mono (ih kc hc n lf lo fr S L₁ S' ρ a w hlo h1 hr hfr ht) fun e a' w' ⟨p, hp, ρ₁, he, hs, hfr₁, ht₁⟩ => ?_)
    subst he
    have hin : blockExit id p ∈ L₁.map (blockExit id) := List.mem_map.2 ⟨p, hp, rfl⟩
    obtain ⟨x, f⟩ := p
    cases x with
    | normal => exact ⟨_, hin, ρ₁, rfl, hs, hfr₁, ht₁⟩
    | ret => exact ⟨_, hin, ρ₁, rfl, hs, hfr₁, ht₁⟩
    | exit j =>
      by_cases hj : j = id
      · subst hj
        simp only [exitOf, Go.Exit.inBlock, if_true]
        refine ⟨_, hin, ρ₁, ?_, hs, hfr₁, ht₁⟩
        show Go.Exit.normal = exitOf (bIf (Nat.beq j j) Exit.normal (Exit.exit j))
        rw [natBeq_eq]; simp [bIf, exitOf]
      · simp only [exitOf, Go.Exit.inBlock, hj, if_false]
        refine ⟨_, hin, ρ₁, ?_, hs, hfr₁, ht₁⟩
        show Go.Exit.exit j = exitOf (bIf (Nat.beq j id) Exit.normal (Exit.exit j))
        rw [natBeq_eq]; simp [bIf, exitOf, hj]
  | loop c ih =>
    intro k hk n lf lo fr S L S' ρ a w hlo hex hr hfr ht
    obtain ⟨kc, hc, hk'⟩ := obind_some (show obind (cCode cx fid N c) (fun k => some (mkLoop (nextFirst c) k)) = some k from hk)
    have hk' := Option.some.inj hk'
    rcases mkLoop_not (ok := nextFirst c) (k := kc) with ⟨d, it, ops, rest, e⟩ | e
    · obtain ⟨hok, rfl⟩ := mkLoop_M e
      rw [e] at hk'
      subst hk'
      have hex : bIf (band (lall quietOp ops) (quietC rest)) (rbind (picks fr.env it S) fun q => rbind (outsM cf lf d q.1 it ops rest lf fr S) fun l => Res.ok l (S.kill q.1)) (.err 74) = .ok L S' := hex
      obtain ⟨hq, hex⟩ := bIf_err hex
      obtain ⟨q1, q2⟩ : lall quietOp ops = true ∧ quietC rest = true := by simpa using hq
      obtain ⟨q, _, hex⟩ := rbind_ok hex
      obtain ⟨l, hl, hex⟩ := rbind_ok hex
      cases hex
      exact loopM_ok hcx hm hcf hc hok q1 q2 hl hlo hr hfr ht
    · refine plain _ k hk ?_ n lf lo fr S L S' ρ a w hlo hex hr hfr ht
      rw [← hk', e]; rfl
  | region id ops draw => intro k hk; exact plain _ k hk (region_noM hk)
  | skip => intro k hk; exact plain _ k hk (by cases hk; rfl)
  | cond X c d _ _ =>
    intro k hk
    refine plain _ k hk ?_
    obtain ⟨x, hx, hk⟩ := obind_some (show obind (cOpd X) (fun x => obind (cCode cx fid N c) fun a => obind (cCode cx fid N d) fun b => some (KCode.cond x a b)) = some k from hk)
    obtain ⟨kc, hc, hk⟩ := obind_some hk
    obtain ⟨kd, hd, hk⟩ := obind_some hk
    cases hk; rfl
  | rangeFunc X ps c d _ _ =>
    intro k hk
    refine plain _ k hk ?_
    obtain ⟨x, hx, hk⟩ := obind_some (show obind (cOpd X) (fun x => obind (cCode cx fid N c) fun a => obind (cCode cx fid N d) fun b => bIf (band (lall (fun t => Nat.blt t N) ps.toList) (band (nd a) (nd b))) (some (KCode.rangeFunc x (lmap pa ps.toList) a b)) none) = some k from hk)
    obtain ⟨kc, hc, hk⟩ := obind_some hk
    obtain ⟨kd, hd, hk⟩ := obind_some hk
    obtain ⟨_, hk⟩ := bIf_none hk
    cases hk; rfl
  | exit id => intro k hk; exact plain _ k hk (by cases hk; rfl)
  | ret => intro k hk; exact plain _ k hk (by cases hk; rfl)
  | scope _ _ => intro k hk; cases hk
  | label _ => intro k hk; cases hk
  | goto _ => intro k hk; cases hk
  | refuse _ => intro k hk; cases hk

end Go.K

namespace Go.K
variable {ρ ρ' ρ₁ ρ0 : Rho} {S S' S₁ S0 : St} {w w' w₁ w0 : World} {P : Program} {cx : Cx} {cc : CC}

theorem exitOf_cases (e : Exit) (h : isExit e = false) : exitOf e = .normal ∨ exitOf e = .ret := by
  cases e with
  | normal => exact .inl rfl
  | ret => exact .inr rfl
  | exit id => cases h

/-- a mark taken -/
theorem Sim.take (h : Sim cc ρ0 S0 w0 ρ S w) {r : Nat} (hlo : w0.heap.size ≤ r) (hat : w.heap[r]? = some (.deferred (some []))) : Sim cc ρ0 S0 w0 ρ S (w.putObj r (.deferred none)) := by
  have hne : ∀ id L b, ρ id = some L → S.get id = some b → L.blk ≠ r := fun id L b h1 h2 e => by
    have hb := h.rel.blk id L b h1 h2
    rw [← e] at hat
    cases b with
    | cells n l g => obtain ⟨_, _, _, c, e, h5, _⟩ := hb; rw [hat] at h5; cases h5
    | big n z t g => obtain ⟨_, _, _, c, e, h5, _⟩ := hb; rw [hat] at h5; cases h5
    | map es clock => obtain ⟨es', h5, _⟩ := hb; rw [hat] at h5; cases h5
    | mapIter m since seen stepped => obtain ⟨m', h5, _⟩ := hb; rw [hat] at h5; cases h5
    | bag es => obtain ⟨es', clock, es2, h5, _⟩ := hb; rw [hat] at h5; cases h5
    | loop done tmps params assign body pending => obtain ⟨lp, h5, _⟩ := hb; rw [hat] at h5; cases h5
  have hot : ∀ k, k < w0.heap.size → (w.putObj r (.deferred none)).heap[k]? = w.heap[k]? := fun k hk => World.putObj_heap_other (by omega)
  refine ⟨h.next, h.ext, ⟨fun id L b h1 h2 => (h.rel.blk id L b h1 h2).congr (World.putObj_heap_other (hne id L b h1 h2)), h.rel.apart⟩,
    ⟨by rw [World.putObj_size]; exact h.frm.size, h.frm.os, h.frm.output, h.frm.tape, fun blk o ho hn => ?_, fun blk c e fz ho => ?_, fun blk lp ho => ?_, fun blk c e fz ho => ?_⟩, h.shr, h.blks⟩
  · rw [hot blk (heap_lt ho)]; exact h.frm.obj blk o ho hn
  · rw [hot blk (heap_lt ho)]; exact h.frm.cells blk c e fz ho
  · rw [hot blk (heap_lt ho)]; exact h.frm.loop blk lp ho
  · by_cases e' : blk = r
    · subst e'
      rw [World.putObj_heap_same (heap_lt hat)] at ho; cases ho
    · rw [World.putObj_heap_other e'] at ho; exact h.frm.back blk c e fz ho

theorem MarkOk.other {lo r r' : Nat} (h : MarkOk lo ρ S w r) (hne : r ≠ r') : MarkOk lo ρ S (w.putObj r' (.deferred none)) r :=
  ⟨h.lo, by rw [World.putObj_heap_other hne]; exact h.at', h.free⟩

theorem DefR.other {lo r : Nat} {l : List (V × List V)} {m : List Deferred} (h : DefR lo ρ S w l m) (hd : ∀ d ∈ m, d.target ≠ .collected r) : DefR lo ρ S (w.putObj r (.deferred none)) l m := by
  induction h with
  | nil => exact .nil
  | call h _ ih => exact .call h (ih fun d hd' => hd d (by simp [hd']))
  | mark h hd' _ ih => exact .mark (h.other fun e => hd _ (List.mem_cons_self) (by rw [← e])) hd' (ih fun d hd' => hd d (by simp [hd']))
  | pass _ ih => exact .pass (ih hd)

theorem isMark_iff {v : V} : isMark v = true ↔ v = .nilfunc := by
  cases v <;> first | exact ⟨fun _ => rfl, fun _ => rfl⟩ | exact ⟨fun h => (by cases h), fun h => (by cases h)⟩

/-- the deferred calls of a function that ends -/
theorem leaves_ok (hcx : CxT P cx) {cf : CF} (hcf : CFOk cc P cf) {fn : Func} {ks : List KRes} {vs : List V} {env : Env} {tmps : Array Value} {n : Nat} (hks : omap (cRes cx) fn.results.toList = some ks) :
    ∀ (l : List (V × List V)) (m : List Deferred) (ρ : Rho) (S S₂ : St) (w : World), DefR w0.heap.size ρ S w l m → Sim cc ρ0 S0 w0 ρ S w → Top S ρ → EnvR ρ env tmps → runDefers cf l S = .ok () S₂ → results env S₂ ks = some vs →
      LeavesInM Fence.wide n P fn tmps (RetR cc ρ0 S0 w0 (oneOrTup vs) S₂) m .returning w := by
  intro l m ρ S S₂ w hdef
  revert S₂
  generalize hlo : w0.heap.size = lo at hdef
  induction m generalizing l ρ S w with
  | nil =>
    intro S₂ hs ht hen hrun hres
    have key : ∀ l, DefR lo ρ S w l [] → runDefers cf l S = .ok () S₂ → S₂ = S := by
      intro l
      induction l with
      | nil => intro _ h; cases h; rfl
      | cons d l ih =>
        intro hd h
        generalize hm : ([] : List Deferred) = m at hd
        cases hd with
        | call _ _ => cases hm
        | mark _ _ _ => cases hm
        | pass t => subst hm; exact ih t h
    have := key l hdef hrun
    subst this
    obtain ⟨v', h1, h2⟩ := run_results (P := P) hcx hs.rel hen hks hres
    exact ⟨v', h1, v', ρ, rfl, h2, hs⟩
  | cons d m ih =>
    intro S₂ hs ht hen hrun hres
    have key : ∀ l, DefR lo ρ S w l (d :: m) → runDefers cf l S = .ok () S₂ → LeavesInM Fence.wide n P fn tmps (RetR cc ρ0 S0 w0 (oneOrTup vs) S₂) (d :: m) .returning w := by
      intro l
      induction l with
      | nil => intro hd _; cases hd
      | cons p l ihl =>
        intro hd h
        cases hd with
        | pass t => exact ihl t h
        | mark hm hd' t =>
          have h : runDefers cf l S = .ok () S₂ := h
          refine ⟨by simp, .inl ⟨_, w.putObj _ (.deferred none), rfl, run_takeDeferred hm.at', ?_⟩⟩
          exact ih l ρ S _ (t.other hd') S₂ (hs.take (by rw [hlo]; exact hm.lo) hm.at') ht hen h hres
        | call hc t =>
          obtain ⟨f, first, captured, A, C, h1, h2, h3, h4, h5⟩ := hc
          have h : bIf (isMark p.1) (runDefers cf l S) (rbind (targetVal p.1 p.2) fun r => bIf (notRound r) (resBind (cf (asDfn r) S) fun _ s => runDefers cf l s) (.err 61)) = .ok () S₂ := h
          rw [h1] at h
          have h : resBind (cf (.dfn f (lapp first (lapp p.2 captured))) S) (fun _ s => runDefers cf l s) = .ok () S₂ := h
          obtain ⟨v, S₁, hcall, hrest⟩ := resBind_ok h
          rw [lapp_eq, lapp_eq] at hcall
          obtain ⟨hfn, hd⟩ := hcf.dfn _ _ _ _ _ hcall
          refine ⟨by simp, .inr ⟨fun hx => (by cases hx), .func f, C, f, d.args ++ C, h2, ?_, fun _ _ => trivial, ?_⟩⟩
          · rw [h2]
            simp only [invoke]
            exact run_callFunc hfn _
          · refine CallsDIn.mono (hd (n - 1) ρ w (d.args ++ C) .returning hs.rel ?_ ht) fun e u' w' hh => ?_
            · rw [Array.toList_append, ← List.append_assoc, h4]
              exact h5.append h3
            · obtain ⟨rfl, v', ρ', rfl, _, hs'⟩ := hh
              have hle := hs'.le (ht.fresh S₁)
              exact ih l ρ' S₁ w' (t.sim hs' hle) S₂ (hs.trans hs') (ht.sim hs') (hen.mono hle) hrest hres
    exact key l hdef hrun

theorem args_size {vs : List V} {A : Array Value} (h : VsR ρ vs A.toList) {N : Nat} (hN : Nat.ble (llen vs) N = true) : (A ++ Array.replicate (N - A.size) undef).size = N := by
  have h1 := h.length
  have h2 := Nat.le_of_ble_eq_true hN
  rw [llen_eq] at h2
  simp at h1 ⊢
  omega

theorem bnot_err {α : Type} {c : Bool} {n : Nat} {a : Res α} {b : α} (h : bIf (bnot c) (.err n) a = .ok b S) : c = true ∧ a = .ok b S := by
  cases c with
  | true => exact ⟨rfl, h⟩
  | false => cases h

theorem endFn_ok {cf : CF} {kf : KFunc} {p : Exit × Fr} {v : V} (h : endFn cf kf p S = .ok v S') : isExit p.1 = false ∧ ∃ vs, runDefers cf p.2.defers S = .ok () S' ∧ results p.2.env S' kf.results = some vs ∧ v = oneOrTup vs := by
  have h : bIf (isExit p.1) (.err 54) (resBind (runDefers cf p.2.defers S) fun _ s => rbind (results p.2.env s kf.results) fun vs => Res.ok (oneOrTup vs) s) = .ok v S' := h
  cases hx : isExit p.1 with
  | true => rw [hx] at h; cases h
  | false =>
    rw [hx] at h
    obtain ⟨_, S₂, hdef, h⟩ := resBind_ok (show resBind (runDefers cf p.2.defers S) (fun _ s => rbind (results p.2.env s kf.results) fun vs => Res.ok (oneOrTup vs) s) = .ok v S' from h)
    obtain ⟨vs, hres, h⟩ := rbind_ok h
    cases h
    exact ⟨rfl, vs, hdef, hres, rfl⟩

/-- a function -/
theorem fn_ok (hcx : CxI P cx) (hm : P.follows .mixedOrders = true) {cf : CF} (hcf : CFOk (ccOf cx) P cf) {tab : Nat → Option KFunc} (htab : TabOk cx P tab) {f lf : Nat} {kf : KFunc} {args : List V} {v : V} (hf : tab f = some kf) (h : callFn cf lf args S kf = .ok v S') :
    FnOk P f ∧ ∀ n ρ w (A : Array Value), Rel (ccOf cx) ρ S w → VsR ρ args A.toList → Top S ρ → CallsIn Fence.wide n P f A w (RetR (ccOf cx) ρ S w v S') := by
  obtain ⟨fn, c, h1, h2, h3, h4, h5, h6⟩ := htab f kf hf
  refine ⟨⟨fn, h1, by rw [h2]; rfl, h3⟩, fun n ρ w A hr hA ht => ?_⟩
  obtain ⟨hN, h⟩ := bnot_err h
  obtain ⟨p, S₁, hex, hend⟩ := resBind_ok h
  obtain ⟨hx, vs, hdef, hres, rfl⟩ := endFn_ok hend
  rw [h6] at hN
  refine callsIn_of_wp_marks h1 h2 trivial (wpIn_mono (code_ok hcx hcf (drawn_ok hcx hm hcf) f fn.ntmps c kf.body h5 Fence.wide n lf w.heap.size ⟨startEnv args .z .nil, []⟩ S p S₁ ρ _ w (.inl rfl) (.inl rfl) (fun l hl => by cases hl) (Nat.le_refl _) hex hr ⟨start_env hA fn.ntmps, args_size hA hN, .nil⟩ ht) fun e a' w' hq => ?_) rfl
  obtain ⟨ρ₁, he, hs, hfr, ht₁⟩ := hq
  have := leaves_ok (P := P) hcx.toCxE.toCxT hcf (n := n) h4 p.2.defers a'.defers ρ₁ S₁ S' w' hfr.defs hs ht₁ hfr.env hdef hres
  rcases exitOf_cases p.1 hx with h | h
  · rw [h] at he; subst he; exact this
  · rw [h] at he; subst he; exact this

theorem endM_ok {kf : KFunc} {p : Exit × Fr} {v : V} (h : endM kf S p = some v) : isExit p.1 = false ∧ p.2.defers = [] ∧ ∃ vs, results p.2.env S kf.results = some vs ∧ v = oneOrTup vs := by
  unfold endM at h
  rw [bIf_eq] at h
  split at h
  · cases h
  · rename_i hx
    obtain ⟨hn, h⟩ := bIf_none h
    obtain ⟨vs, hv, h⟩ := obind_some h
    cases h
    refine ⟨by simpa using hx, ?_, vs, hv, rfl⟩
    cases hd : p.2.defers with
    | nil => rfl
    | cons _ _ => rw [hd] at hn; cases hn

theorem sameM_ok {kf : KFunc} {L : List (Exit × Fr)} {v : V} (h : sameM kf S L = .ok v S') : S' = S ∧ ∀ p ∈ L, endM kf S p = some v := by
  unfold sameM at h
  split at h
  · cases h
  · rename_i p l
    obtain ⟨v0, hv0, h⟩ := rbind_ok h
    obtain ⟨hall, h⟩ := bIf_err h
    cases h
    refine ⟨rfl, fun q hq => ?_⟩
    rcases List.mem_cons.1 hq with rfl | hq
    · exact hv0
    · have := (lall_iff _ _).1 hall q hq
      cases he : endM kf S q with
      | none => rw [he] at this; cases this
      | some u => rw [he] at this; rw [V.beq_sound 100 u v this]

/-- a function in which a loop over a map stands -/
theorem fnM_ok (hcx : CxI P cx) (hm : P.follows .mixedOrders = true) {cf : CF} (hcf : CFOk (ccOf cx) P cf) {tab : Nat → Option KFunc} (htab : TabOk cx P tab) {f lf : Nat} {kf : KFunc} {args : List V} {v : V} (hf : tab f = some kf) (h : callFnM cf lf args S kf = .ok v S') :
    FnOk P f ∧ ∀ n ρ w (A : Array Value), Rel (ccOf cx) ρ S w → VsR ρ args A.toList → Top S ρ → CallsIn Fence.wide n P f A w (RetR (ccOf cx) ρ S w v S') := by
  obtain ⟨fn, c, h1, h2, h3, h4, h5, h6⟩ := htab f kf hf
  refine ⟨⟨fn, h1, by rw [h2]; rfl, h3⟩, fun n ρ w A hr hA ht => ?_⟩
  obtain ⟨hN, h⟩ := bnot_err h
  obtain ⟨L, S₁, hex, hend⟩ := resBind_ok h
  obtain ⟨rfl, hsame⟩ := sameM_ok hend
  rw [h6] at hN
  refine callsIn_of_wp_marks h1 h2 trivial (wpIn_mono (codeM_ok hcx hm hcf f fn.ntmps c kf.body h5 n lf w.heap.size ⟨startEnv args .z .nil, []⟩ S L S' ρ _ w (Nat.le_refl _) hex hr ⟨start_env hA fn.ntmps, args_size hA hN, .nil⟩ ht) fun e a' w' ⟨p, hp, hq⟩ => ?_) rfl
  obtain ⟨ρ₁, he, hs, hfr, ht₁⟩ := hq
  obtain ⟨hx, hd, vs, hres, rfl⟩ := endM_ok (hsame p hp)
  have := leaves_ok (P := P) hcx.toCxE.toCxT hcf (n := n) h4 p.2.defers a'.defers ρ₁ S' S' w' hfr.defs hs ht₁ hfr.env (by rw [hd]; rfl) hres
  rcases exitOf_cases p.1 hx with h | h
  · rw [h] at he; subst he; exact this
  · rw [h] at he; subst he; exact this

/-- a function that is called as a deferred one -/
theorem dfn_ok (hcx : CxI P cx) (hm : P.follows .mixedOrders = true) {cf : CF} (hcf : CFOk (ccOf cx) P cf) {tab : Nat → Option KFunc} (htab : TabOk cx P tab) {f lf : Nat} {kf : KFunc} {args : List V} {v : V} (hf : tab f = some kf) (h : callDfn cf lf args S kf = .ok v S') :
    FnOk P f ∧ ∀ n ρ w (A : Array Value) u, Rel (ccOf cx) ρ S w → VsR ρ args A.toList → Top S ρ → CallsDIn Fence.wide n P f A u w (fun e u' w' => u' = u ∧ RetR (ccOf cx) ρ S w v S' e w') := by
  obtain ⟨fn, c, h1, h2, h3, h4, h5, h6⟩ := htab f kf hf
  refine ⟨⟨fn, h1, by rw [h2]; rfl, h3⟩, fun n ρ w A u hr hA ht => ?_⟩
  obtain ⟨hN, h⟩ := bnot_err h
  obtain ⟨p, S₁, hex, hend⟩ := resBind_ok h
  have hend : bIf (isExit p.1) (.err 54) (bIf (isNilL p.2.defers) (rbind (results p.2.env S₁ kf.results) fun vs => Res.ok (oneOrTup vs) S₁) (.err 62)) = .ok v S' := hend
  obtain ⟨hx, hend⟩ : isExit p.1 = false ∧ bIf (isNilL p.2.defers) (rbind (results p.2.env S₁ kf.results) fun vs => Res.ok (oneOrTup vs) S₁) (.err 62) = .ok v S' := by
    cases hx : isExit p.1 with
    | true => rw [hx] at hend; cases hend
    | false => rw [hx] at hend; exact ⟨rfl, hend⟩
  obtain ⟨hnil, hend⟩ := bIf_err hend
  obtain ⟨vs, hres, hend⟩ := rbind_ok hend
  cases hend
  rw [h6] at hN
  refine callsDIn_of_wp h1 h2 trivial (wpIn_mono (code_ok hcx hcf (drawn_ok hcx hm hcf) f fn.ntmps c kf.body h5 Fence.wide n lf w.heap.size ⟨startEnv args .z .nil, []⟩ S p S' ρ _ w (.inl rfl) (.inl rfl) (fun l hl => by cases hl) (Nat.le_refl _) hex hr ⟨start_env hA fn.ntmps, args_size hA hN, .nil⟩ ht) fun e a' w' hq => ?_) rfl
  obtain ⟨ρ₁, he, hs, hfr, ht₁⟩ := hq
  have hd : a'.defers = [] := by
    have hdefs := hfr.defs
    cases hp : p.2.defers with
    | cons x l => rw [hp] at hnil; cases hnil
    | nil =>
      rw [hp] at hdefs
      generalize a'.defers = m at hdefs
      cases hdefs
      rfl
  obtain ⟨v', g1, g2⟩ := run_results (P := P) hcx.toCxE.toCxT hs.rel hfr.env h4 hres
  have key : a'.defers = [] ∧ ∃ v, (Go.results fn a'.tmps).run P w' = .ok v w' ∧ RetR (ccOf cx) ρ S w (oneOrTup vs) S' (.returned v) w' := ⟨hd, v', g1, v', ρ₁, rfl, g2, hs⟩
  rcases exitOf_cases p.1 hx with h | h
  · rw [h] at he; subst he; exact key
  · rw [h] at he; subst he; exact key

/-- a round -/
theorem round_ok (hcx : CxI P cx) (hm : P.follows .mixedOrders = true) {cf : CF} (hcf : CFOk (ccOf cx) P cf) {lf : Nat} {l : Pa} {args : List V} {b : Blk} {v : V} (hb : S.get l = some b) (h : roundV cf lf l args S b = .ok v S') :
    ∀ n ρ w (A : Array Value) L, Rel (ccOf cx) ρ S w → ρ l = some L → VsR ρ args A.toList → Top S ρ →
      ∃ fid tmps assign body, (Instr.yield L.blk A).run P w = .ok (.round L.blk fid tmps assign body) w ∧ RoundIn Fence.wide n P L.blk fid tmps assign body w (RetR (ccOf cx) ρ S w v S') := by
  intro n ρ w A L hr hL hA ht
  obtain ⟨done, tmps, params, assign, body, pending, rfl, h⟩ := onLoop_ok h
  obtain ⟨hdone, h⟩ := bIf_err h
  have hdone := Nat.eq_of_beq_eq_true hdone
  subst hdone
  obtain ⟨env, hsp, h⟩ := rbind_ok h
  obtain ⟨p, S₁, hex, h⟩ := resBind_ok h
  obtain ⟨lp, hlp, hlr⟩ := hr.blk l L _ hL hb
  have hpar := hlr.params
  rw [hpar] at hsp
  obtain ⟨k1, k2, k3⟩ := setParams_ok lp.params.toList args A.toList tmps env lp.tmps hsp hA hlr.env hlr.inside
  have hsz : A.size = lp.params.size := by simpa using k1
  have hfold : (lp.params.zip A).foldl (fun tmps (t, a) => tmps.setIfInBounds t a) lp.tmps = (lp.params.toList.zip A.toList).foldl (fun tmps p => tmps.setIfInBounds p.1 p.2) lp.tmps := by
    rw [← Array.foldl_toList, Array.toList_zip]
  rw [← hfold] at k2 k3
  refine ⟨lp.fn, _, lp.assign, lp.body, run_yield hlp hsz, ?_⟩
  obtain ⟨fa, ha1, ha2⟩ := hlr.assign
  obtain ⟨fb, hb1, hb2⟩ := hlr.body
  have hra : RoundAt (Fence.wide.inRound L.blk) w := fun l' hl' => by cases hl'; exact ⟨lp, hlp⟩
  refine roundIn_of_wpIn trivial (wpIn_mono (code_ok hcx hcf (drawn_ok hcx hm hcf) fa lp.tmps.size lp.assign assign ha1 (Fence.wide.inRound L.blk) n lf w.heap.size ⟨env, []⟩ S p S₁ ρ _ w (.inr ⟨_, rfl⟩) (.inr ha2) hra (Nat.le_refl _) hex hr ⟨k2, k3, .nil⟩ ht) fun e a₁ w₁ hq => ?_)
  obtain ⟨ρ₁, he, hs, hfr, ht₁⟩ := hq
  obtain ⟨x, fr₁⟩ := p
  cases x with
  | ret => cases h
  | exit id => cases h
  | normal =>
    subst he
    have hle := hs.le (ht.fresh S₁)
    have h : beginRound cf lf l body fr₁ S₁ = .ok v S' := h
    obtain ⟨b1, hb1', h⟩ := rbind_ok h
    obtain ⟨d, t, ps, as, bd, q, rfl, h⟩ := onLoop_ok h
    obtain ⟨hd, h⟩ := bIf_err h
    have hd := Nat.eq_of_beq_eq_true hd
    subst hd
    obtain ⟨p2, S₂, hex2, h⟩ := resBind_ok h
    have hL1 := hle _ _ hL
    obtain ⟨lp1, hlp1, hlr1⟩ := hs.rel.blk l L _ hL1 hb1'
    have hs1 := sim_loop hs.rel hL1 hb1' rfl hlp1 (done := 1) (lp' := { lp1 with state := .busy }) ⟨rfl, hlr1.env, hlr1.params, hlr1.inside, hlr1.assign, hlr1.body, hlr1.pending⟩
    refine ⟨_, run_beginRound hlp1 hlr1.state, ?_⟩
    refine wpIn_mono (code_ok hcx hcf (drawn_ok hcx hm hcf) fb lp.tmps.size lp.body body hb1 (Fence.wide.inRound L.blk) n lf w.heap.size fr₁ _ p2 S₂ ρ₁ a₁ _ (.inr ⟨_, rfl⟩) (.inr hb2) ((hra.sim hs).sim hs1) (Nat.le_trans hs.frm.size hs1.frm.size) hex2 hs1.rel
      ⟨hfr.env, hfr.size, hfr.defs.sim hs1 fun _ _ h => h⟩ (ht₁.sim hs1)) fun e a₂ w₂ hq => ?_
    obtain ⟨ρ₂, he2, hs2, hfr2, ht₂⟩ := hq
    have hle2 := hs2.le ((ht₁.sim hs1).fresh S₂)
    have hL2 := hle2 _ _ hL1
    obtain ⟨b2, hb2', h⟩ := rbind_ok (show rbind (S₂.get l) _ = .ok v S' from h)
    obtain ⟨d2, t2, ps2, as2, bd2, q2, rfl, h⟩ := onLoop_ok h
    obtain ⟨lp2, hlp2, hlr2⟩ := hs2.rel.blk l L _ hL2 hb2'
    obtain ⟨x2, fr2⟩ := p2
    have fin : ∀ (jump : Option Code) (dn pd : Nat), stateOf dn = (if jump.isNone then .ready else .done) → jumpOf pd = jump → v = .bool jump.isNone → S' = S₂.put l (.loop dn t2 ps2 as2 bd2 pd) →
        ∃ v' w', (Instr.endRound L.blk jump).run P w₂ = .ok v' w' ∧ RetR (ccOf cx) ρ S w v S' (.returned v') w' := fun jump dn pd h1 h2 h3 h4 => by
      have hs3 := sim_loop hs2.rel hL2 hb2' rfl hlp2 (done := dn) (pending := pd) (lp' := { lp2 with state := if jump.isNone then .ready else .done, pending := jump }) ⟨h1.symm, hlr2.env, hlr2.params, hlr2.inside, hlr2.assign, hlr2.body, h2.symm⟩
      subst h3; subst h4
      exact ⟨_, _, run_endRound jump hlp2, _, ρ₂, rfl, rfl, ((hs.trans hs1).trans hs2).trans hs3⟩
    cases x2 with
    | normal =>
      subst he2
      cases h
      exact fin none 0 0 rfl rfl rfl rfl
    | ret =>
      subst he2
      cases h
      exact fin (some .ret) 2 1 rfl rfl rfl rfl
    | exit id =>
      subst he2
      cases h
      exact fin (some (.exit id)) 2 (id + 2) rfl rfl rfl rfl

/-- all calls -/
theorem callN_ok (hcx : CxI P cx) (hm : P.follows .mixedOrders = true) {tab : Nat → Option KFunc} (htab : TabOk cx P tab) (lf : Nat) : ∀ n, CFOk (ccOf cx) P (callN tab lf n)
  | 0 => ⟨fun f args S v S' h => (by cases h), fun f args S v S' h => (by cases h), fun l args S v S' h => (by cases h)⟩
  | n + 1 => by
    have ih := callN_ok hcx hm htab lf n
    refine ⟨fun f args S v S' h => ?_, fun f args S v S' h => ?_, fun l args S v S' h => ?_⟩
    · obtain ⟨kf, hf, h⟩ := rbind_ok (show rbind (tab f) (fun fn => bIf fn.many (callFnM (callN tab lf n) lf args S fn) (callFn (callN tab lf n) lf args S fn)) = .ok v S' from h)
      cases hmany : kf.many with
      | true =>
        rw [hmany] at h
        exact fnM_ok hcx hm ih htab hf h
      | false =>
        rw [hmany] at h
        exact fn_ok hcx hm ih htab hf h
    · obtain ⟨kf, hf, h⟩ := rbind_ok (show rbind (tab f) (callDfn (callN tab lf n) lf args S) = .ok v S' from h)
      exact dfn_ok hcx hm ih htab hf h
    · obtain ⟨b, hb, h⟩ := rbind_ok (show rbind (S.get l) (roundV (callN tab lf n) lf l args S) = .ok v S' from h)
      exact round_ok hcx hm ih hb h

end Go.K

namespace Go.K
variable {P : Program} {cx : Cx}

theorem Frm.grown {ρ : Rho} {S : St} {w w' : World} (h : Frm ρ S w w') (hn : ∀ blk k, ¬ Owned ρ S blk k) : RowKit.Grown w w' := by
  have same : ∀ i, i < w.heap.size → w'.heap[i]? = w.heap[i]? := fun i hi => by
    have := h.obj i _ (Array.getElem?_eq_getElem hi) (hn i)
    rw [this, Array.getElem?_eq_getElem hi]
  refine ⟨⟨h.os, h.output, fun i hi => ?_⟩, fun a => ?_, h.size⟩
  · rw [same i hi]
    cases w.heap[i]? with
    | none => trivial
    | some o => cases o <;> simp
  · unfold World.frozen?
    by_cases hlt : a.block < w.heap.size
    · rw [same _ hlt]
    · rw [Array.getElem?_eq_none (show w.heap.size ≤ a.block by omega)]
      cases ho : w'.heap[a.block]? with
      | none => rfl
      | some o =>
        cases o with
        | cells c e fz =>
          rcases h.back _ c e fz ho with ⟨c0, h1⟩ | ⟨_, h2⟩
          · have := heap_lt h1; omega
          · subst h2
            show (decide (0 ≤ a.off) && decide (a.off < 0)) = false
            simp
        | _ => rfl

/-- a closed run -/
theorem closed_run (hcx : CxI P cx) (hm : P.follows .mixedOrders = true) {tab : Nat → Option KFunc} (htab : TabOk cx P tab) {lf n f : Nat} {S' : St} (h : callN tab lf n (.fn f []) S00 = .ok (.bool true) S') (w : World) :
    Calls P f #[] w fun e w' => e = .returned (.bool true) ∧ RowKit.Grown w w' := by
  have hr : Rel (ccOf cx) (fun _ => none) S00 w := ⟨fun id L b h1 _ => (by cases h1), fun id id' L L' b b' _ h1 => (by cases h1)⟩
  have := ((callN_ok hcx hm htab lf n).fn f [] S00 _ _ h).2 0 (fun _ => none) w #[] hr rfl (fun id _ => rfl)
  refine (callsIn_wide.1 this).mono fun e w' ⟨v', ρ', he, hv, hs⟩ => ?_
  have hv : v' = .bool true := hv
  subst hv
  exact ⟨he, hs.frm.grown fun blk k ⟨id, L, b, h1, _⟩ => by cases h1⟩

/-- the table of functions -/
theorem tab_ok {fnT : Tr Func} (hT : ∀ f g, Tr.get fnT (pa f) = some g → P.funcs[f]? = some g) (hnm : ∀ (f : Nat) (g : Func), P.funcs[f]? = some g → g.name ≠ "runtime.NumGoroutine") : TabOk cx P (fnTab cx fnT) := by
  intro f kf h
  obtain ⟨g, hg, h⟩ := obind_some h
  obtain ⟨b, hb, h⟩ := obind_some h
  obtain ⟨r, hr, h⟩ := obind_some h
  obtain ⟨c, hc, h⟩ := obind_some h
  cases h
  exact ⟨g, b, hT f g hg, hb, hnm f g (hT f g hg), hr, hc, rfl⟩

end Go.K

namespace Go.K
variable {P : Program} {cx : Cx}

/-! what the compiler is told, looked at -/
theorem mkTr_get {α : Type} : ∀ (l : List α) (i j : Nat) (t : Tr α), Tr.get (mkTr l (pa i) t) (pa j) = if i ≤ j ∧ j < i + l.length then l[j - i]? else Tr.get t (pa j)
  | [], i, j, t => by rw [if_neg (by simp)]; rfl
  | a :: l, i, j, t => by
    have e : mkTr (a :: l) (pa i) t = mkTr l (pa (i + 1)) (Tr.set (some a) t (pa i)) := by rw [pa_succ]; rfl
    rw [e, mkTr_get l (i + 1) j, Tr.get_set]
    by_cases h1 : i + 1 ≤ j ∧ j < i + 1 + l.length
    · rw [if_pos h1, if_pos (by simp; omega), show j - i = (j - (i + 1)) + 1 by omega]; simp
    · rw [if_neg h1]
      by_cases h2 : i = j
      · subst h2; rw [if_pos rfl, if_pos (by simp)]; simp
      · rw [if_neg (fun h => h2 (pa_inj h)), if_neg]
        intro h3; simp at h3; omega

theorem mkTr_some {α : Type} {l : List α} {j : Nat} {a : α} (h : Tr.get (mkTr l .z .nil) (pa j) = some a) : l[j]? = some a := by
  rw [← pa_zero, mkTr_get] at h
  split at h
  · simpa using h
  · rw [get_nil] at h; cases h

theorem info_at {t : TypeId} {i : TypeInfo} (h : P.types[t]? = some i) : P.info? t = some i := by
  have hlt : t < P.types.size := (Array.getElem?_eq_some_iff.1 h).1
  unfold Tables.info?
  rw [if_pos hlt]; exact h

theorem types_ok {eqs : Tr (List ETy)} {inv : Tr (String × List (TypeId × Nat))} : CxT P ⟨tyTab P, eqs, inv⟩ := by
  refine ⟨fun t i h => ?_⟩
  have h : Tr.get (mkTr P.types.toList .z .nil) (pa t) = some i := h
  have := mkTr_some h
  rw [Array.getElem?_toList] at this
  exact info_at this

noncomputable def mkAssoc {α : Type} (l : List (Nat × α)) : Tr α := List.rec .nil (fun p _ ih => Tr.set (some p.2) ih (pa p.1)) l

theorem mkAssoc_some {α : Type} : ∀ {l : List (Nat × α)} {k : Nat} {a : α}, Tr.get (mkAssoc l) (pa k) = some a → (k, a) ∈ l
  | [], k, a, h => by rw [show mkAssoc ([] : List (Nat × α)) = .nil from rfl, get_nil] at h; cases h
  | p :: l, k, a, h => by
    have h : Tr.get (Tr.set (some p.2) (mkAssoc l) (pa p.1)) (pa k) = some a := h
    rw [Tr.get_set] at h
    split at h
    · rename_i e
      cases h
      have := pa_inj e
      subst this; simp
    · exact List.mem_cons_of_mem _ (mkAssoc_some h)

/-! methods -/
def methOk (P : Program) (nm : String) (t : TypeId) (f : FuncId) : Bool :=
  match P.types[t]? with
  | none => false
  | some i => match i.methods.find? (·.name == nm) with
    | none => false
    | some m => m.path.isEmpty && (match m.func with
      | none => false
      | some (g, ptr) => Nat.beq g f && (match P.underlying t, ptr with
        | some (.pointer _), true => true
        | some (.pointer _), false => false
        | some _, false => true
        | _, _ => false))

theorem methOk_run {nm : String} {t : TypeId} {f : FuncId} (h : methOk P nm t f = true) (n : Nat) (v : Value) (w : World) : (method (n + 1) t v nm).run P w = .ok (f, v) w := by
  unfold methOk at h
  cases hi : P.types[t]? with
  | none => rw [hi] at h; cases h
  | some i =>
    rw [hi] at h
    dsimp only at h
    cases hm : i.methods.find? (·.name == nm) with
    | none => rw [hm] at h; cases h
    | some m =>
      rw [hm] at h
      dsimp only at h
      rw [Bool.and_eq_true] at h
      obtain ⟨hp, h⟩ := h
      cases hf : m.func with
      | none => rw [hf] at h; cases h
      | some gp =>
        obtain ⟨g, ptr⟩ := gp
        rw [hf] at h
        dsimp only at h
        rw [Bool.and_eq_true] at h
        obtain ⟨hg, h⟩ := h
        have hg := Nat.eq_of_beq_eq_true hg
        subst hg
        have hpath : m.path.toList = [] := by
          have : m.path = #[] := by simpa using hp
          rw [this]
        have hinfo : P.info? t = some i := info_at hi
        cases hu : P.underlying t with
        | none => rw [hu] at h; cases ptr <;> cases h
        | some d =>
          rw [hu] at h
          have hrec : (receiverAt t (.val v) ptr (if m.path.isEmpty then some ((nm.splitOn ".").getLastD nm) else none)).run P w = .ok v w := by
            unfold receiverAt
            rw [Sem.run_bind, run_underlying hu, Result.andThen_ok]
            cases d <;> cases ptr <;> first | (exfalso; cases h; done) | rfl
          have hty : (typeInfo t).run P w = .ok i w := by simp [typeInfo, hinfo]
          unfold method
          simp only [Sem.run_bind, hty, Result.andThen_ok, hm, hpath, follow, Sem.run_pure, hf, hrec]

def tabOk (P : Program) (p : String × List (TypeId × Nat)) : Bool := p.2.all fun q => methOk P p.1 q.1 q.2

theorem assocN_mem : ∀ {l : List (Nat × Nat)} {x y : Nat}, assocN l x = some y → (x, y) ∈ l
  | [], x, y, h => by cases h
  | p :: l, x, y, h => by
    have h : bIf (Nat.beq p.1 x) (some p.2) (assocN l x) = some y := h
    rw [bIf_eq] at h
    split at h
    · rename_i e
      have e := Nat.eq_of_beq_eq_true e
      have h' : p.2 = y := Option.some.inj (by assumption)
      rw [← e, ← h']; simp
    · exact List.mem_cons_of_mem _ (assocN_mem h)

/-! types whose values are compared -/
def eNo (e : ETy) : Nat := match e with
  | .bool => 0 | .int => 1 | .str => 2 | .ptr => 3 | .slice => 4 | .map => 5 | .func => 6 | .iface => 7 | .cells _ => 8

theorem eNo_inj {e f : ETy} (h : eNo e = eNo f) (h8 : eNo e ≠ 8) : e = f := by
  cases e <;> cases f <;> first | rfl | (simp [eNo] at h h8; done)

def optE (x : Option ETy) (e : ETy) : Bool := match x with
  | some f => Nat.beq (eNo f) (eNo e)
  | none => false

def isF (x : Option Bool) : Bool := match x with
  | some false => true
  | _ => false

theorem isF_iff {x : Option Bool} (h : isF x = true) : x = some false := by
  cases x with
  | none => cases h
  | some b => cases b <;> first | rfl | cases h

noncomputable def fieldsOk (cx : Cx) : List Field → List ETy → Nat → Bool
  | [], [], _ => true
  | f :: fs, e :: es, i => !(f.name == "_") && Nat.beq f.offset i && isF (cx.agg f.type) && optE (cx.eTy f.type) e && fieldsOk cx fs es (i + 1)
  | _, _, _ => false

noncomputable def eqChk (P : Program) (cx : Cx) (t : TypeId) (l : List ETy) : Bool :=
  !P.eqGuardType P.depth t && l.all (fun e => !(Nat.beq (eNo e) 8)) && (match P.underlying t with
    | some (.struct fs) => !P.stoodInHeld t && fieldsOk cx fs.toList l 0
    | some (.array n e) => (match cx.size e with | some s => Nat.beq s 1 | none => false) && isF (cx.agg e) && (match cx.eTy e with | some x => Nat.beq l.length n && l.all (fun y => optE (some x) y) && !(Nat.beq (eNo x) 8) | none => false)
    | _ => false)

theorem optE_eq {x : Option ETy} {e : ETy} (h : optE x e = true) (h8 : eNo e ≠ 8) : x = some e := by
  cases x with
  | none => cases h
  | some f =>
    have h := Nat.eq_of_beq_eq_true (show Nat.beq (eNo f) (eNo e) = true from h)
    rw [eNo_inj h.symm h8]

theorem fieldsOk_get : ∀ (fs : List Field) (es : List ETy) (k : Nat), fieldsOk cx fs es k = true → (∀ e ∈ es, eNo e ≠ 8) → fs.length = es.length ∧ ∀ (i : Nat) (f : Field), fs[i]? = some f → f.name ≠ "_" ∧ f.offset = k + i ∧ cx.agg f.type = some false ∧ cx.eTy f.type = es[i]?
  | [], [], k, _, _ => ⟨rfl, fun i f hi => by simp at hi⟩
  | [], _ :: _, k, h, _ => by cases h
  | _ :: _, [], k, h, _ => by cases h
  | f :: fs, e :: es, k, h, h8 => by
    simp only [fieldsOk, Bool.and_eq_true] at h
    obtain ⟨⟨⟨⟨h1, h2⟩, h3⟩, h4⟩, h5⟩ := h
    obtain ⟨g1, g2⟩ := fieldsOk_get fs es (k + 1) h5 fun e he => h8 e (by simp [he])
    refine ⟨by simp [g1], fun i f' hi => ?_⟩
    cases i with
    | zero =>
      simp at hi; subst hi
      refine ⟨by simpa using h1, by have := Nat.eq_of_beq_eq_true h2; omega, isF_iff h3, ?_⟩
      rw [optE_eq h4 (h8 e (by simp))]; simp
    | succ i =>
      obtain ⟨k1, k2, k3, k4⟩ := g2 i f' (by simpa using hi)
      exact ⟨k1, by omega, k3, by simpa using k4⟩

theorem eqChk_ok {t : TypeId} {l : List ETy} (h : eqChk P cx t l = true) : EqOk P cx t l := by
  unfold eqChk at h
  rw [Bool.and_eq_true, Bool.and_eq_true] at h
  obtain ⟨⟨h1, h2⟩, h3⟩ := h
  have h8 : ∀ e ∈ l, eNo e ≠ 8 := fun e he hc => by
    have := List.all_eq_true.1 h2 e he
    rw [hc] at this; cases this
  refine ⟨by simpa using h1, fun e he m hm => by subst hm; exact h8 _ he rfl, ?_⟩
  cases hu : P.underlying t with
  | none => rw [hu] at h3; cases h3
  | some d =>
    rw [hu] at h3
    cases d with
    | struct fs =>
      dsimp only at h3
      rw [Bool.and_eq_true] at h3
      obtain ⟨g1, g2⟩ := fieldsOk_get fs.toList l 0 h3.2 h8
      refine .inl ⟨fs, rfl, by simpa using h3.1, by simpa using g1, fun i f hi => ?_⟩
      obtain ⟨k1, k2, k3, k4⟩ := g2 i f (by rw [Array.getElem?_toList]; exact hi)
      exact ⟨k1, by omega, k3, k4⟩
    | array n e =>
      dsimp only at h3
      rw [Bool.and_eq_true, Bool.and_eq_true] at h3
      obtain ⟨⟨g1, g2⟩, g3⟩ := h3
      cases hs : cx.size e with
      | none => rw [hs] at g1; cases g1
      | some s =>
        rw [hs] at g1
        have g1 := Nat.eq_of_beq_eq_true (show Nat.beq s 1 = true from g1)
        subst g1
        cases he : cx.eTy e with
        | none => rw [he] at g3; cases g3
        | some x =>
          rw [he] at g3
          dsimp only at g3
          rw [Bool.and_eq_true, Bool.and_eq_true] at g3
          obtain ⟨⟨k1, k2⟩, k3⟩ := g3
          have hx8 : eNo x ≠ 8 := fun hc => by rw [hc] at k3; cases k3
          refine .inr ⟨n, e, x, rfl, hs, isF_iff g2, he, ?_⟩
          have hl := Nat.eq_of_beq_eq_true k1
          refine List.eq_replicate_iff.2 ⟨hl, fun y hy => ?_⟩
          have := List.all_eq_true.1 k2 y hy
          have := optE_eq this (h8 y hy)
          exact (Option.some.inj this).symm
    | _ => cases h3

/-- the whole -/
theorem cx_ok {eqsL : List (Nat × List ETy)} {invL : List (Nat × (String × List (TypeId × Nat)))} (he : ∀ p ∈ eqsL, eqChk P ⟨tyTab P, mkAssoc eqsL, mkAssoc invL⟩ p.1 p.2 = true) (hi : ∀ p ∈ invL, tabOk P p.2 = true) :
    CxI P ⟨tyTab P, mkAssoc eqsL, mkAssoc invL⟩ :=
  { toCxE := { toCxT := types_ok, eqs := fun t l h => eqChk_ok (he (t, l) (mkAssoc_some h)) },
    inv := fun k nm tb h t f hf v w => by
      have h1 := hi (k, nm, tb) (mkAssoc_some h)
      have h2 := List.all_eq_true.1 h1 (t, f) (assocN_mem hf)
      have hpos : 0 < Made.depth := by decide
      have hd : ∃ n, P.types.size + Made.depth = n + 1 := ⟨P.types.size + (Made.depth - 1), by omega⟩
      obtain ⟨n, hn⟩ := hd
      rw [hn]
      exact methOk_run h2 n v w }

theorem funcs_ok (f : Nat) (g : Func) (h : Tr.get (mkTr P.funcs.toList .z .nil) (pa f) = some g) : P.funcs[f]? = some g := by
  have := mkTr_some h
  rw [Array.getElem?_toList] at this
  exact this

end Go.K
