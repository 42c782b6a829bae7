/- Frames, calls, and regions whose order is drawn: whatever the order is, the model does what the machine does in the order of the text. The conditions of each theorem stand with it. -/
import Derived.Test.YtkcjeopdenhafaaGreatKc
import Derived.RangeFuncRecord
namespace Go.K
variable {cc : CC} {ρ ρ' ρ₁ : Rho} {S S' S₁ : St} {w w' w₁ : World} {P : Program} {o : Oper} {x y z : Opd} {X Y Z : Operand} {cx : Cx}

/-! frames -/
theorem EnvR.mono {env : Env} {t : Array Value} (h : EnvR ρ env t) (hle : ρ.le ρ') : EnvR ρ' env t := fun i => (h i).mono hle

theorem envAt_set (env : Env) (d : Pa) (v : V) (i : Nat) : envAt (Tr.set (some v) env d) (pa i) = if d = pa i then v else envAt env (pa i) := by
  unfold envAt
  rw [Tr.get_set]
  split <;> rfl

theorem opa_some {N : Nat} {d : Option Nat} {q : Option Pa} (h : opa N d = some q) : (d = none ∧ q = none) ∨ ∃ n, d = some n ∧ n < N ∧ q = some (pa n) := by
  cases d with
  | none => cases h; exact .inl ⟨rfl, rfl⟩
  | some n =>
    obtain ⟨h1, h⟩ := bIf_none (a := some (some (pa n))) (show bIf (Nat.blt n N) (some (some (pa n))) none = some q from h)
    cases h
    exact .inr ⟨n, rfl, Nat.le_of_ble_eq_true h1, rfl⟩

theorem EnvR.put {env : Env} {a : Act} {v : V} {v' : Value} {d : Option Nat} {q : Option Pa} (h : EnvR ρ env a.tmps) (hd : opa a.tmps.size d = some q) (hv : VR ρ v v') :
    EnvR ρ (putD env q v) (a.put d v').tmps ∧ (a.put d v').tmps.size = a.tmps.size ∧ (a.put d v').defers = a.defers := by
  rcases opa_some hd with ⟨rfl, rfl⟩ | ⟨n, rfl, hn, rfl⟩
  · exact ⟨h, rfl, rfl⟩
  · refine ⟨fun i => ?_, by simp [Act.put], rfl⟩
    show VR ρ (envAt (Tr.set (some v) env (pa n)) (pa i)) ((a.tmps.setIfInBounds n v').getD i undef)
    rw [envAt_set]
    by_cases e : n = i
    · subst e
      rw [if_pos rfl]
      have : (a.tmps.setIfInBounds n v').getD n undef = v' := by simp [hn]
      rw [this]; exact hv
    · rw [if_neg (fun h => e (pa_inj h))]
      have : (a.tmps.setIfInBounds n v').getD i undef = a.tmps.getD i undef := by
        simp only [Array.getD_eq_getD_getElem?, Array.getElem?_setIfInBounds_ne e]
      rw [this]; exact h i

theorem isB_iff {want : Bool} {v : V} : isB want v = true ↔ v = .bool want := by
  cases v with
  | bool b => 
    show beqBool b want = true ↔ _
    constructor
    · intro h; rw [beqBool_iff h]
    · intro h; cases h; cases want <;> rfl
  | _ => exact ⟨fun h => (by cases h), fun h => (by cases h)⟩

theorem VR.of_bool {v : V} {b : Bool} (h : VR ρ v (.bool b)) : v = .bool b := by
  cases v with
  | bool c => have h : Value.bool b = .bool c := h; cases h; rfl
  | int _ _ => have h : Value.bool b = _ := h; cases h
  | str _ => obtain ⟨_, h, _⟩ := h; cases h
  | ptr _ _ => obtain ⟨_, _, h⟩ := h; cases h
  | nilptr => have h : Value.bool b = _ := h; cases h
  | slice _ _ _ _ => obtain ⟨_, _, _, _, h, _⟩ := h; cases h
  | nilslice => have h : Value.bool b = _ := h; cases h
  | map _ => obtain ⟨_, _, h⟩ := h; cases h
  | nilmap => have h : Value.bool b = _ := h; cases h
  | func _ _ _ => obtain ⟨_, _, h, _⟩ := h; cases h
  | yield _ => obtain ⟨_, _, h⟩ := h; cases h
  | nilfunc => have h : Value.bool b = _ := h; cases h
  | iface _ _ => obtain ⟨_, h, _⟩ := h; cases h
  | niliface => have h : Value.bool b = _ := h; cases h
  | agg _ => obtain ⟨_, h, _⟩ := h; cases h
  | tup _ => obtain ⟨_, h, _⟩ := h; cases h

theorem wanted_eq {ops : Array Oper} {env : Env} {a : Act} (hen : EnvR ρ env a.tmps) {g : Option (Pa × Bool)} (hg : cGuard ops.toList o.guard = some g) :
    wanted env g = Region.wanted o (yielded ops a.tmps) := by
  unfold Region.wanted
  cases hog : o.guard with
  | none => rw [hog] at hg; cases hg; rfl
  | some p =>
    obtain ⟨j, want⟩ := p
    rw [hog] at hg
    obtain ⟨oj, hj, hg⟩ := obind_some hg
    obtain ⟨d, hd, hg⟩ := obind_some hg
    cases hg
    rw [lget_eq] at hj
    have hj : ops[j]? = some oj := by simpa using hj
    show isB want (envAt env (pa d)) = (yielded ops a.tmps j == some want)
    have hv := hen d
    unfold yielded
    rw [hj]
    simp only [Option.bind_some, hd]
    cases ht : a.tmps[d]? with
    | none =>
      have hu : a.tmps.getD d undef = undef := by simp [Array.getD_eq_getD_getElem?, ht]
      rw [hu] at hv
      cases hb : isB want (envAt env (pa d)) with
      | false => rfl
      | true => rw [isB_iff.1 hb] at hv; cases (show undef = Value.bool want from hv)
    | some t =>
      have hu : a.tmps.getD d undef = t := by simp [Array.getD_eq_getD_getElem?, ht]
      rw [hu] at hv
      cases hb : isB want (envAt env (pa d)) with
      | true =>
        rw [isB_iff.1 hb] at hv
        have hv : t = .bool want := hv
        subst hv
        simp
      | false =>
        cases t with
        | bool b =>
          have := hv.of_bool
          rw [this] at hb
          have : b ≠ want := fun e => by rw [e] at hb; rw [isB_iff.2 rfl] at hb; cases hb
          simp [this]
        | _ => rfl

/-! deferred calls -/
/-- the mark of a block for the deferred calls of rounds -/
structure MarkOk (lo : Nat) (ρ : Rho) (S : St) (w : World) (r : Nat) : Prop where
  lo : lo ≤ r
  at' : w.heap[r]? = some (.deferred (some []))
  free : ∀ k, ¬ Owned ρ S r k

/-- what a deferred call is -/
def CallR (ρ : Rho) (p : V × List V) (d : Deferred) : Prop :=
  ∃ f first captured A C, p.1 = .func f first captured ∧ d.target = .fn (.func f) C ∧ VsR ρ captured C.toList ∧ d.args = A ∧ VsR ρ (first ++ p.2) A.toList

inductive DefR (lo : Nat) (ρ : Rho) (S : St) (w : World) : List (V × List V) → List Deferred → Prop where
  | nil : DefR lo ρ S w [] []
  | call {p d l m} (h : CallR ρ p d) (t : DefR lo ρ S w l m) : DefR lo ρ S w (p :: l) (d :: m)
  | mark {r l m} (h : MarkOk lo ρ S w r) (hd : ∀ d ∈ m, d.target ≠ .collected r) (t : DefR lo ρ S w l m) : DefR lo ρ S w (markD :: l) ({ target := .collected r, args := #[] } :: m)
  | pass {l m} (t : DefR lo ρ S w l m) : DefR lo ρ S w (markD :: l) m

theorem MarkOk.sim {lo r : Nat} (h : MarkOk lo ρ S w r) (hs : Sim cc ρ S w ρ' S' w') : MarkOk lo ρ' S' w' r :=
  ⟨h.lo, hs.frm.obj r _ h.at' h.free, fun k hk => by
    rcases hs.shr r k hk with h1 | h1
    · exact h.free k h1
    · have := heap_lt h.at'; omega⟩

theorem CallR.mono {p : V × List V} {d : Deferred} (h : CallR ρ p d) (hle : ρ.le ρ') : CallR ρ' p d := by
  obtain ⟨f, first, captured, A, C, h1, h2, h3, h4, h5⟩ := h
  exact ⟨f, first, captured, A, C, h1, h2, h3.mono hle, h4, h5.mono hle⟩

theorem DefR.sim {lo : Nat} {l : List (V × List V)} {m : List Deferred} (h : DefR lo ρ S w l m) (hs : Sim cc ρ S w ρ' S' w') (hle : ρ.le ρ') : DefR lo ρ' S' w' l m := by
  induction h with
  | nil => exact .nil
  | call h _ ih => exact .call (h.mono hle) ih
  | mark h hd _ ih => exact .mark (h.sim hs) hd ih
  | pass _ ih => exact .pass ih

/-- the frame of a call of the machine's functions: temporaries, deferred calls -/
structure FrR (lo : Nat) (N : Nat) (ρ : Rho) (S : St) (w : World) (fr : Fr) (a : Act) : Prop where
  env : EnvR ρ fr.env a.tmps
  size : a.tmps.size = N
  defs : DefR lo ρ S w fr.defers a.defers

theorem FrR.put {lo N : Nat} {fr : Fr} {a : Act} {v : V} {v' : Value} {d : Option Nat} {q : Option Pa} (h : FrR lo N ρ S w fr a) (hs : Sim cc ρ S w ρ' S' w') (hle : ρ.le ρ')
    (hd : opa N d = some q) (hv : VR ρ' v v') : FrR lo N ρ' S' w' ⟨putD fr.env q v, fr.defers⟩ (a.put d v') := by
  obtain ⟨h1, h2, h3⟩ := (h.env.mono hle).put (d := d) (q := q) (by rw [h.size]; exact hd) hv
  exact ⟨h1, h2.trans h.size, by rw [h3]; exact h.defs.sim hs hle⟩

end Go.K

namespace Go.K
variable {cc : CC} {ρ ρ' ρ₁ : Rho} {S S' S₁ : St} {w w' w₁ : World} {P : Program} {o : Oper} {x y z : Opd} {X Y Z : Operand} {cx : Cx}

/-- no number from the next one on is used -/
def Top (S : St) (ρ : Rho) : Prop := ∀ id, S.next.toNat ≤ id.toNat → ρ id = none

theorem Top.fresh (h : Top S ρ) (S' : St) : Fresh S S' ρ := fun id h1 _ => h id h1
theorem Top.sim (h : Top S ρ) (hs : Sim cc ρ S w ρ' S' w') : Top S' ρ' := fun id hid => by
  rw [hs.ext id (.inr hid)]; exact h id (Nat.le_trans hs.next hid)

/-- what a call brings -/
def RetR (cc : CC) (ρ : Rho) (S : St) (w : World) (v : V) (S' : St) : Ending → World → Prop := fun e w' => ∃ v' ρ', e = .returned v' ∧ VR ρ' v v' ∧ Sim cc ρ S w ρ' S' w'

def FnOk (P : Program) (f : FuncId) : Prop := ∃ fn, P.funcs[f]? = some fn ∧ fn.body.isSome = true ∧ fn.name ≠ "runtime.NumGoroutine"

/-- the calls do what my machine says -/
structure CFOk (cc : CC) (P : Program) (cf : CF) : Prop where
  fn : ∀ f args S v S', cf (.fn f args) S = .ok v S' → FnOk P f ∧ ∀ n ρ w (A : Array Value), Rel cc ρ S w → VsR ρ args A.toList → Top S ρ → CallsIn Fence.wide n P f A w (RetR cc ρ S w v S')
  dfn : ∀ f args S v S', cf (.dfn f args) S = .ok v S' → FnOk P f ∧ ∀ n ρ w (A : Array Value) u, Rel cc ρ S w → VsR ρ args A.toList → Top S ρ → CallsDIn Fence.wide n P f A u w (fun e u' w' => u' = u ∧ RetR cc ρ S w v S' e w')
  round : ∀ l args S v S', cf (.round l args) S = .ok v S' → ∀ n ρ w (A : Array Value) L, Rel cc ρ S w → ρ l = some L → VsR ρ args A.toList → Top S ρ →
    ∃ fid tmps assign body, (Instr.yield L.blk A).run P w = .ok (.round L.blk fid tmps assign body) w ∧ RoundIn Fence.wide n P L.blk fid tmps assign body w (RetR cc ρ S w v S')

/-- the method tables are the program's -/
structure CxI (P : Program) (cx : Cx) : Prop extends CxE P cx where
  inv : ∀ k nm tb, Tr.get cx.inv (pa k) = some (nm, tb) → ∀ t f, assocN tb t = some f → ∀ v w, (method (P.types.size + Made.depth) t v nm).run P w = .ok (f, v) w

/-- the fences of this text: wide; a round's -/
def Wide (F : Fence) : Prop := F = Fence.wide ∨ ∃ l, F = Fence.wide.inRound l

theorem Wide.fn {F : Fence} (h : Wide F) (f : FuncId) : F.fn f := by rcases h with rfl | ⟨l, rfl⟩ <;> trivial
theorem Wide.depth {F : Fence} (h : Wide F) (n : Nat) : F.depth.isSome = true → 1 ≤ n := by rcases h with rfl | ⟨l, rfl⟩ <;> (intro h; cases h)
theorem Wide.calls {F : Fence} (h : Wide F) {n : Nat} {f : FuncId} {A : Array Value} {R : Ending → World → Prop} (hc : CallsIn Fence.wide n P f A w R) : CallsIn F n P f A w R := by
  rcases h with rfl | ⟨l, rfl⟩ <;> exact hc
theorem Wide.rounds {F : Fence} (h : Wide F) {n l : Nat} {f : FuncId} {tmps : Array Value} {assign body : Code} {R : Ending → World → Prop} (hc : RoundIn Fence.wide n P l f tmps assign body w R) : RoundIn F n P l f tmps assign body w R := by
  rcases h with rfl | ⟨l, rfl⟩ <;> exact hc

theorem run_callFunc {f : FuncId} (h : FnOk P f) (A : Array Value) : (callFunc f A).run P w = .ok (.enter f A) w := by
  obtain ⟨fn, h1, h2, h3⟩ := h
  have hb : fn.body ≠ none := fun hb => by rw [hb] at h2; cases h2
  simp [callFunc, h1, h3, hb]

/-- a function's value called -/
theorem run_ofValue {f : V} {A : Value} (hv : VR ρ f A) {fn : Nat} {first captured : List V} (hf : f = .func fn first captured) (args : Array Value) :
    ∃ a c : Array Value, A = .func (.func fn) a c ∧ VsR ρ first a.toList ∧ VsR ρ captured c.toList ∧ (Deferred.ofValue A args).run P w = .ok { target := .fn (.func fn) c, args := a ++ args } w := by
  subst hf
  obtain ⟨a, c, rfl, h1, h2⟩ := hv
  exact ⟨a, c, rfl, h1, h2, by simp [Deferred.ofValue]⟩

theorem targetVal_some {f : V} {args : List V} {r : Req} (h : targetVal f args = some r) :
    (∃ fn first captured, f = .func fn first captured ∧ r = .fn fn (first ++ (args ++ captured))) ∨ ∃ l, f = .yield l ∧ r = .round l args := by
  cases f with
  | func fn first captured => cases h; exact .inl ⟨fn, first, captured, rfl, by rw [lapp_eq, lapp_eq]⟩
  | yield l => cases h; exact .inr ⟨l, rfl, rfl⟩
  | _ => cases h

theorem targetInv_some {v : V} {tb : List (TypeId × Nat)} {args : List V} {r : Req} (h : targetInv v tb args = some r) : ∃ t u f, v = .iface t u ∧ assocN tb t = some f ∧ r = .fn f (u :: args) := by
  cases v with
  | iface t u =>
    obtain ⟨f, hf, h⟩ := obind_some (show obind (assocN tb t) (fun f => some (Req.fn f (u :: args))) = some r from h)
    cases h
    exact ⟨t, u, f, rfl, hf, rfl⟩
  | _ => cases h

/-- the call of an operation: where it goes -/
theorem call_goes (hcx : CxI P cx) {c : Call} {kc : KCallee} {key : Nat} {l : List Opd} (ho : o.op = .call c) (hk : cCallee cx key c.callee = some kc) (hl : cOpds c.args = some l) {env : Env} {a : Act} (hen : EnvR ρ env a.tmps)
    {r : Req} (ht : target env kc l = some r) (hfn : ∀ f args, r = .fn f args → FnOk P f) :
    (∃ f args A, r = .fn f args ∧ VsR ρ args (Array.toList A) ∧ (execOp a.eval o).run P w = .ok (.enter f A) w) ∨
    (∃ b args A L, r = .round b args ∧ ρ b = some L ∧ VsR ρ args (Array.toList A) ∧ (execOp a.eval o).run P w = (Instr.yield L.blk A).run P w) := by
  have hargs := opds_sound hl hen
  have val : ∀ (X : Operand) (V0 : V), c.callee = .value X → VR ρ V0 (a.eval X) → targetVal V0 (looks env l) = some r →
      (∃ f args A, r = .fn f args ∧ VsR ρ args (Array.toList A) ∧ (execOp a.eval o).run P w = .ok (.enter f A) w) ∨
      (∃ b args A L, r = .round b args ∧ ρ b = some L ∧ VsR ρ args (Array.toList A) ∧ (execOp a.eval o).run P w = (Instr.yield L.blk A).run P w) := by
    intro X V0 hc hv hr
    rcases targetVal_some hr with ⟨fn, first, captured, rfl, rfl⟩ | ⟨b, rfl, rfl⟩
    · obtain ⟨a1, c1, hA, h1, h2, h3⟩ := run_ofValue (P := P) (w := w) hv rfl (c.args.map a.eval)
      refine .inl ⟨fn, _, a1 ++ c.args.map a.eval ++ c1, rfl, ?_, ?_⟩
      · rw [Array.toList_append, Array.toList_append, List.append_assoc]
        exact h1.append (hargs.append h2)
      · have := run_callFunc (P := P) (w := w) (hfn _ _ rfl) (a1 ++ c.args.map a.eval ++ c1)
        simp only [execOp, ho, Sem.run_bind, resolve, hc, h3, Result.andThen_ok, invoke, this]
    · obtain ⟨L, hL, hA⟩ := hv
      refine .inr ⟨b, _, c.args.map a.eval, L, rfl, hL, hargs, ?_⟩
      simp only [execOp, ho, Sem.run_bind, resolve, hc, hA, Deferred.ofValue, Sem.run_pure, Result.andThen_ok, invoke, Array.empty_append]
  obtain ⟨callee, args, tys⟩ := c
  cases callee with
  | value X =>
    cases X with
    | func f =>
      cases hk
      have hr : targetVal (.func f [] []) (looks env l) = some r := by
        have h1 : some (Req.fn f (looks env l)) = some r := ht
        cases h1
        show some (Req.fn f (lapp [] (lapp (looks env l) []))) = _
        rw [lapp_eq, lapp_eq]; simp
      exact val (.func f) (.func f [] []) rfl ⟨#[], #[], rfl, rfl, rfl⟩ hr
    | tmp t => obtain ⟨y, hy, hk⟩ := obind_some (show obind (cOpd (.tmp t)) (fun y => some (KCallee.val y)) = some kc from hk); cases hk; exact val (.tmp t) (env.look y) rfl (opd_sound hy hen) ht
    | const v => obtain ⟨y, hy, hk⟩ := obind_some (show obind (cOpd (.const v)) (fun y => some (KCallee.val y)) = some kc from hk); cases hk; exact val (.const v) (env.look y) rfl (opd_sound hy hen) ht
    | global g => cases hk
  | invoke X nm =>
    obtain ⟨⟨nm', tb⟩, hp, hk⟩ := obind_some hk
    obtain ⟨hnm, hk⟩ := bIf_none hk
    obtain ⟨y, hy, hk⟩ := obind_some hk
    cases hk
    have hnm : nm' = nm := by simpa using hnm
    subst hnm
    obtain ⟨t, u, f, hv, hf, rfl⟩ := targetInv_some ht
    have vy := opd_sound hy hen
    rw [hv] at vy
    obtain ⟨U, hU, vU⟩ := vy
    have hm := hcx.inv key nm' tb hp t f hf U w
    refine .inl ⟨f, _, #[U] ++ args.map a.eval, rfl, ⟨U, _, by simp, vU, hargs⟩, ?_⟩
    have := run_callFunc (P := P) (w := w) (hfn _ _ rfl) (#[U] ++ args.map a.eval)
    have hx : (#[Value.iface t U] ++ args.map a.eval).extract 1 (#[Value.iface t U] ++ args.map a.eval).size = args.map a.eval := by
      apply Array.ext'
      simp
      exact List.take_of_length_le (by simp)
    have h0 : (#[Value.iface t U] ++ args.map a.eval)[0]? = some (Value.iface t U) := by rw [Array.getElem?_append_left (by simp)]; rfl
    simp only [execOp, ho, Sem.run_bind, resolve, hU, Sem.run_pure, Result.andThen_ok, invoke, h0, hx, callMethod, run_program, hm, this]
  | builtin b => cases hk

/-- an operation that calls -/
theorem call_upon (hcx : CxI P cx) {cf : CF} (hcf : CFOk cc P cf) {c : Call} {kc : KCallee} {key : Nat} {l : List Opd} (ho : o.op = .call c) (hk : cCallee cx key c.callee = some kc) (hl : cOpds c.args = some l) {env : Env} {a : Act}
    (hr : Rel cc ρ S w) (hen : EnvR ρ env a.tmps) {r : Req} {v : V} (ht : target env kc l = some r) (hc : cf r S = .ok v S') (hf : Top S ρ) {F : Fence} (hF : Wide F) (n : Nat) {next : Act → World → Prop} {Q : Go.Exit → Act → World → Prop}
    (hnext : ∀ v' ρ' w', VR ρ' v v' → Sim cc ρ S w ρ' S' w' → next (a.put o.dst v') w') : o.uponIn F n P a next Q ((o.semAt F.round a.eval).run P w) := by
  rw [Oper.semAt_eq _ _ _ (fun c' h => by rw [ho] at h; cases h)]
  rcases call_goes (w := w) hcx ho hk hl hen ht (fun f args hfn => by subst hfn; exact (hcf.fn _ _ _ _ _ hc).1) with ⟨f, args, A, rfl, hA, hrun⟩ | ⟨b, args, A, L, rfl, hL, hA, hrun⟩
  · rw [hrun, Oper.uponIn_enter]
    refine ⟨hF.depth n, hF.calls (CallsIn.mono ((hcf.fn _ _ _ _ _ hc).2 (n - 1) ρ w A hr hA hf) fun e w' h => ?_)⟩
    obtain ⟨v', ρ', rfl, h1, h2⟩ := h
    exact hnext v' ρ' w' h1 h2
  · obtain ⟨fid, tmps, assign, body, h1, h2⟩ := hcf.round _ _ _ _ _ hc (n - 1) ρ w A L hr hL hA hf
    rw [hrun, h1, Oper.uponIn_round]
    refine ⟨hF.depth n, hF.rounds (RoundIn.mono h2 fun e w' h => ?_)⟩
    obtain ⟨v', ρ', rfl, h1, h2⟩ := h
    exact hnext v' ρ' w' h1 h2

end Go.K

namespace Go.K
variable {cc : CC} {ρ ρ' ρ₁ : Rho} {S S' S₁ : St} {w w' w₁ : World} {P : Program} {o : Oper} {x y z : Opd} {X Y Z : Operand} {cx : Cx}

/-- does an operation call Go code? -/
def isCall (o : KOper) : Bool := match o with
  | .call .. => true
  | _ => false

/-! one operation of a region -/
theorem VR.undef (ρ : Rho) : VR ρ undefV undef := ⟨#[], rfl, rfl⟩

theorem cOper_some {fid N : Nat} {ops : List Oper} {cls : Cls} {ko : KOper} (h : cOper cx fid N ops cls o = some ko) :
    ∃ g d, cGuard ops o.guard = some g ∧ opa N o.dst = some d ∧
      ((∃ k, cOp cx o.op = some k ∧ ko = .ev cls g d k ∧ (∀ c, o.op ≠ .defer c)) ∨
       (∃ c kc l, o.op = .call c ∧ cCallee cx (key fid o.dst) c.callee = some kc ∧ cOpds c.args = some l ∧ ko = .call g d kc l) ∨
       (∃ c X f l, o.op = .defer c ∧ c.callee = .value X ∧ cOpd X = some f ∧ cOpds c.args = some l ∧ ko = .defer g d f l)) := by
  obtain ⟨g, hg, h⟩ := obind_some h
  obtain ⟨d, hd, h⟩ := obind_some h
  refine ⟨g, d, hg, hd, ?_⟩
  cases ho : o.op with
  | call c =>
    rw [ho] at h
    obtain ⟨callee, args, tys⟩ := c
    cases callee with
    | builtin b =>
      obtain ⟨k, hk, h⟩ := obind_some h
      cases h
      exact .inl ⟨k, hk, rfl, fun c hc => by cases hc⟩
    | value X =>
      obtain ⟨kc, hk, h⟩ := obind_some h
      obtain ⟨l, hl, h⟩ := obind_some h
      cases h
      exact .inr (.inl ⟨_, kc, l, rfl, hk, hl, rfl⟩)
    | invoke X nm =>
      obtain ⟨kc, hk, h⟩ := obind_some h
      obtain ⟨l, hl, h⟩ := obind_some h
      cases h
      exact .inr (.inl ⟨_, kc, l, rfl, hk, hl, rfl⟩)
  | defer c =>
    rw [ho] at h
    obtain ⟨callee, args, tys⟩ := c
    cases callee with
    | value X =>
      obtain ⟨f, hf, h⟩ := obind_some h
      obtain ⟨l, hl, h⟩ := obind_some h
      cases h
      exact .inr (.inr ⟨_, X, f, l, rfl, rfl, hf, hl, rfl⟩)
    | _ => cases h
  | _ =>
    rw [ho] at h
    obtain ⟨k, hk, h⟩ := obind_some h
    cases h
    exact .inl ⟨k, hk, rfl, fun c hc => by cases hc⟩

theorem upon_next {F : Fence} {n : Nat} {a : Act} {next : Act → World → Prop} {Q : Go.Exit → Act → World → Prop} {nx : Next} {v' : Value} (h : nextVal nx = some v') (hn : next (a.put o.dst v') w') : o.uponIn F n P a next Q (.ok nx w') := by
  cases nx with
  | value v => cases h; exact hn
  | skip => cases h; exact hn
  | _ => cases h

theorem step_sound (hcx : CxI P cx) {cf : CF} (hcf : CFOk cc P cf) {fid N lo : Nat} {ops : Array Oper} {cls : Cls} {ko : KOper} (hco : cOper cx fid N ops.toList cls o = some ko) {fr fr' : Fr} {a : Act}
    (hst : step cf ko fr S = .ok fr' S') (hr : Rel cc ρ S w) (hfr : FrR lo N ρ S w fr a) (hf : Fresh S S' ρ) (htop : isCall ko = true → Top S ρ) {F : Fence} (hF : Wide F) (hnd : F.round = none ∨ notDefer ko = true) (n : Nat) {next : Act → World → Prop} {Q : Go.Exit → Act → World → Prop}
    (hnext : ∀ ρ' a' w', Sim cc ρ S w ρ' S' w' → FrR lo N ρ' S' w' fr' a' → next a' w') :
    if Region.wanted o (yielded ops a.tmps) then o.wpIn F n P a w next Q else (∀ f, o.about P w a.eval = some f → F.fn f) ∧ next (a.put o.dst undef) w := by
  obtain ⟨g, d, hg, hd, hcase⟩ := cOper_some hco
  have hw := wanted_eq (ops := ops) hfr.env hg
  have skip : fr' = ⟨putD fr.env d undefV, fr.defers⟩ → S' = S → (∀ f, o.about P w a.eval = some f → F.fn f) ∧ next (a.put o.dst undef) w := fun h1 h2 => by
    subst h1; subst h2
    exact ⟨fun f _ => hF.fn f, hnext ρ _ w (Sim.refl hr) (hfr.put (Sim.refl hr) (fun _ _ h => h) hd (VR.undef ρ))⟩
  rw [← hw]
  rcases hcase with ⟨k, hk, rfl, hnd'⟩ | ⟨c, kc, l, ho, hk, hl, rfl⟩ | ⟨c, X, f, l, ho, hcal, hfx, hl, rfl⟩
  · have hst : bIf (wanted fr.env g) (resBind (evalOp k fr.env S) fun v s => Res.ok ⟨putD fr.env d v, fr.defers⟩ s) (.ok ⟨putD fr.env d undefV, fr.defers⟩ S) = .ok fr' S' := hst
    cases hwt : wanted fr.env g with
    | false =>
      rw [hwt] at hst
      cases hst
      exact skip rfl rfl
    | true =>
      rw [hwt] at hst
      obtain ⟨v, S₁, hev, hst⟩ := resBind_ok (show resBind (evalOp k fr.env S) (fun v s => Res.ok ⟨putD fr.env d v, fr.defers⟩ s) = Res.ok fr' S' from hst)
      cases hst
      obtain ⟨nx, w', ρ', v', h1, h2, h3, h4⟩ := cOp_sound hcx.toCxE hk fr.env S v S' ρ a w hev hr hfr.env hf
      simp only [if_true]
      refine ⟨fun f _ => hF.fn f, ?_⟩
      rw [Oper.semAt_eq _ _ _ hnd', h1]
      exact upon_next h2 (hnext ρ' _ w' h4 (hfr.put h4 (h4.le hf) hd h3))
  · have hst : bIf (wanted fr.env g) (rbind (target fr.env kc l) fun r => resBind (cf r S) fun v s => Res.ok ⟨putD fr.env d v, fr.defers⟩ s) (.ok ⟨putD fr.env d undefV, fr.defers⟩ S) = .ok fr' S' := hst
    cases hwt : wanted fr.env g with
    | false =>
      rw [hwt] at hst
      cases hst
      exact skip rfl rfl
    | true =>
      rw [hwt] at hst
      obtain ⟨r, htg, hst⟩ := rbind_ok (show rbind (target fr.env kc l) (fun r => resBind (cf r S) fun v s => Res.ok ⟨putD fr.env d v, fr.defers⟩ s) = Res.ok fr' S' from hst)
      obtain ⟨v, S₁, hcall, hst⟩ := resBind_ok hst
      cases hst
      simp only [if_true]
      refine ⟨fun f _ => hF.fn f, ?_⟩
      exact call_upon hcx hcf ho hk hl hr hfr.env htg hcall (htop rfl) hF n fun v' ρ' w' h3 h4 => hnext ρ' _ w' h4 (hfr.put h4 (h4.le hf) hd h3)
  · have hst : bIf (wanted fr.env g) (bIf (isFnV (fr.env.look f)) (Res.ok ⟨putD fr.env d undefV, (fr.env.look f, looks fr.env l) :: fr.defers⟩ S) (.err 66)) (.ok ⟨putD fr.env d undefV, fr.defers⟩ S) = .ok fr' S' := hst
    have hro : F.round = none := hnd.resolve_right (by simp [notDefer])
    cases hwt : wanted fr.env g with
    | false =>
      rw [hwt] at hst
      cases hst
      exact skip rfl rfl
    | true =>
      rw [hwt] at hst
      obtain ⟨hfn, hst⟩ := bIf_err (show bIf (isFnV (fr.env.look f)) (Res.ok ⟨putD fr.env d undefV, (fr.env.look f, looks fr.env l) :: fr.defers⟩ S) (.err 66) = Res.ok fr' S' from hst)
      cases hst
      simp only [if_true]
      refine ⟨fun f _ => hF.fn f, ?_⟩
      have hv := opd_sound hfx hfr.env
      obtain ⟨fn, first, captured, hfe⟩ : ∃ fn first captured, fr.env.look f = .func fn first captured := by
        cases hl : fr.env.look f with
        | func fn first captured => exact ⟨fn, first, captured, rfl⟩
        | _ => rw [hl] at hfn; cases hfn
      obtain ⟨a1, c1, hA, h1, h2, h3⟩ := run_ofValue (P := P) (w := w) hv hfe (c.args.map a.eval)
      have hargs := opds_sound hl hfr.env
      rw [hro, Oper.semAt_none]
      have hrun : (execOp a.eval o).run P w = .ok (.defer { target := .fn (.func fn) c1, args := a1 ++ c.args.map a.eval }) w := by
        simp only [execOp, ho, Sem.run_bind, resolve, hcal, h3, Result.andThen_ok, Sem.run_pure]
      rw [hrun, Oper.uponIn_defer]
      have hfr2 : FrR lo N ρ S w ⟨fr.env, (fr.env.look f, looks fr.env l) :: fr.defers⟩ { a with defers := { target := .fn (.func fn) c1, args := a1 ++ c.args.map a.eval } :: a.defers } :=
        ⟨hfr.env, hfr.size, .call ⟨fn, first, captured, _, c1, hfe, rfl, h2, rfl, by rw [Array.toList_append]; exact h1.append hargs⟩ hfr.defs⟩
      exact hnext ρ _ w (Sim.refl hr) (hfr2.put (Sim.refl hr) (fun _ _ h => h) hd (VR.undef ρ))

/-! a region in the order of the text -/
theorem steps_sound (hcx : CxI P cx) {cf : CF} (hcf : CFOk cc P cf) {fid N lo : Nat} {ops : Array Oper} {F : Fence} (hF : Wide F) (n : Nat) {Q : Go.Exit → Act → World → Prop} {fr' : Fr} :
    ∀ (m k : Nat) (l : List KOper) (fr : Fr) (S : St) (ρ : Rho) (a : Act) (w : World), l.length = m → (∀ i ko, l[i]? = some ko → ∃ o, ops[k + i]? = some o ∧ cOper cx fid N ops.toList .pure o = some ko) → (F.round = none ∨ ∀ ko ∈ l, notDefer ko = true) →
      steps cf l fr S = .ok fr' S' → Rel cc ρ S w → FrR lo N ρ S w fr a → Top S ρ →
      (∀ ρ' a' w', Sim cc ρ S w ρ' S' w' → FrR lo N ρ' S' w' fr' a' → Top S' ρ' → Q .normal a' w') → wpOpsIn F n P ops Q (List.range' k m) a w
  | 0, k, l, fr, S, ρ, a, w, hl, hc, hnd, hst, hr, hfr, ht, hQ => by
    have : l = [] := List.length_eq_zero_iff.1 hl
    subst this
    cases hst
    exact hQ ρ a w (Sim.refl hr) hfr ht
  | m + 1, k, [], fr, S, ρ, a, w, hl, hc, hnd, hst, hr, hfr, ht, hQ => by cases hl
  | m + 1, k, ko :: l, fr, S, ρ, a, w, hl, hc, hnd, hst, hr, hfr, ht, hQ => by
    obtain ⟨o, ho, hco⟩ := hc 0 ko rfl
    obtain ⟨fr₁, S₁, h1, h2⟩ := resBind_ok (show resBind (step cf ko fr S) (steps cf l) = .ok fr' S' from hst)
    rw [List.range'_succ, wpOpsIn_cons]
    unfold wpOpIn
    rw [Nat.add_zero] at ho
    simp only [ho]
    refine step_sound hcx hcf hco h1 hr hfr (ht.fresh S₁) (fun _ => ht) hF (hnd.imp id fun h => h ko (by simp)) n fun ρ₁ a₁ w₁ hs hfr₁ => ?_
    refine steps_sound (fid := fid) (ops := ops) hcx hcf hF n m (k + 1) l fr₁ S₁ ρ₁ a₁ w₁ (by simpa using hl) (fun i ko' hi => ?_) (hnd.imp id fun h ko' hk => h ko' (by simp [hk])) h2 hs.rel hfr₁ (ht.sim hs) (fun ρ' a' w' hs' hfr' ht' => hQ ρ' a' w' (hs.trans hs') hfr' ht')
    obtain ⟨o', ho', hco'⟩ := hc (i + 1) ko' (by simpa using hi)
    exact ⟨o', by rw [← ho']; congr 1; omega, hco'⟩

end Go.K

namespace Go.K
variable {env env' : Env}

/-! what an operation looks at -/
theorem looks_congr (l : List Opd) (h : ∀ x ∈ l, env.look x = env'.look x) : looks env l = looks env' l := by
  unfold looks
  rw [lmap_eq, lmap_eq]
  exact List.map_congr_left h

theorem fillL_congr (parts : List (Nat × Nat × Opd)) (h : ∀ p ∈ parts, env.look p.2.2 = env'.look p.2.2) : ∀ m cells, fillL env m parts cells = fillL env' m parts cells := by
  induction parts with
  | nil => intro m cells; rfl
  | cons p l ih =>
    intro m cells
    have hp := h p (by simp)
    show bIf (band (env.look p.2.2).fits (band (Nat.beq (llen (env.look p.2.2).cells) p.2.1) (Nat.ble (Nat.add p.1 p.2.1) m))) (fillL env m l (lput (env.look p.2.2).cells cells p.1)) none =
      bIf (band (env'.look p.2.2).fits (band (Nat.beq (llen (env'.look p.2.2).cells) p.2.1) (Nat.ble (Nat.add p.1 p.2.1) m))) (fillL env' m l (lput (env'.look p.2.2).cells cells p.1)) none
    rw [hp, ih (fun q hq => h q (by simp [hq]))]

theorem bnd_congr (x : Option Opd) (h : ∀ y ∈ optL x, env.look y = env'.look y) : ∀ y d, bnd env x y d = bnd env' x y d := by
  intro y d
  cases x with
  | none => rfl
  | some x =>
    show bound (env.look x) y = bound (env'.look x) y
    rw [h x (by simp [optL])]

theorem evalOp_congr (op : KOp) (h : ∀ x ∈ op.opds, env.look x = env'.look x) (S : St) : evalOp op env S = evalOp op env' S := by
  cases op with
  | mov x =>
    have h_x := h x (by simp [KOp.opds])
    show evMov x env S = evMov x env' S
    simp only [evMov, h_x]
  | pick c a b =>
    have h_c := h c (by simp [KOp.opds])
    have h_a := h a (by simp [KOp.opds])
    have h_b := h b (by simp [KOp.opds])
    show evPick c a b env S = evPick c a b env' S
    simp only [evPick, h_c, h_a, h_b]
  | new zero0 =>
    rfl
  | newBig n0 z0 =>
    rfl
  | box x =>
    have h_x := h x (by simp [KOp.opds])
    show evBox x env S = evBox x env' S
    simp only [evBox, h_x]
  | build zero0 parts =>
    have h_parts := fillL_congr (env := env) (env' := env') parts (fun p hp => h _ (by simp only [KOp.opds, lmap_eq, List.mem_map]; exact ⟨p, hp, rfl⟩))
    show evBuild zero0 parts env S = evBuild zero0 parts env' S
    simp only [evBuild, h_parts]
  | buildSlice l0 n0 zero0 parts =>
    have h_parts := fillL_congr (env := env) (env' := env') parts (fun p hp => h _ (by simp only [KOp.opds, lmap_eq, List.mem_map]; exact ⟨p, hp, rfl⟩))
    show evBuildSlice l0 n0 zero0 parts env S = evBuildSlice l0 n0 zero0 parts env' S
    simp only [evBuildSlice, h_parts]
  | load g0 n0 a =>
    have h_a := h a (by simp [KOp.opds])
    show evLoad g0 n0 a env S = evLoad g0 n0 a env' S
    simp only [evLoad, h_a]
  | store n0 a v =>
    have h_a := h a (by simp [KOp.opds])
    have h_v := h v (by simp [KOp.opds])
    show evStore n0 a v env S = evStore n0 a v env' S
    simp only [evStore, h_a, h_v]
  | nilCheck x =>
    have h_x := h x (by simp [KOp.opds])
    show evNilCheck x env S = evNilCheck x env' S
    simp only [evNilCheck, h_x]
  | bin op0 x y =>
    have h_x := h x (by simp [KOp.opds])
    have h_y := h y (by simp [KOp.opds])
    show evBin op0 x y env S = evBin op0 x y env' S
    simp only [evBin, h_x, h_y]
  | eq n0 e0 l0 x y =>
    have h_x := h x (by simp [KOp.opds])
    have h_y := h y (by simp [KOp.opds])
    show evEq n0 e0 l0 x y env S = evEq n0 e0 l0 x y env' S
    simp only [evEq, h_x, h_y]
  | un op0 x =>
    have h_x := h x (by simp [KOp.opds])
    show evUn op0 x env S = evUn op0 x env' S
    simp only [evUn, h_x]
  | conv k0 x =>
    have h_x := h x (by simp [KOp.opds])
    show evConv k0 x env S = evConv k0 x env' S
    simp only [evConv, h_x]
  | toStr x =>
    have h_x := h x (by simp [KOp.opds])
    show evToStr x env S = evToStr x env' S
    simp only [evToStr, h_x]
  | strStr x =>
    have h_x := h x (by simp [KOp.opds])
    show evStrStr x env S = evStrStr x env' S
    simp only [evStrStr, h_x]
  | mkIface t0 x =>
    have h_x := h x (by simp [KOp.opds])
    show evMkIface t0 x env S = evMkIface t0 x env' S
    simp only [evMkIface, h_x]
  | mkFunc f0 first captured =>
    have h_first := looks_congr (env := env) (env' := env') first (fun x hx => h x (by simp only [KOp.opds, lapp_eq, List.mem_append]; first | exact hx | exact .inl hx | exact .inr hx))
    have h_captured := looks_congr (env := env) (env' := env') captured (fun x hx => h x (by simp only [KOp.opds, lapp_eq, List.mem_append]; first | exact hx | exact .inl hx | exact .inr hx))
    show evMkFunc f0 first captured env S = evMkFunc f0 first captured env' S
    simp only [evMkFunc, h_first, h_captured]
  | mkMap  =>
    rfl
  | mkSlice es0 b0 zero0 l c =>
    have h_l := h l (by simp [KOp.opds])
    have h_c := h c (by simp [KOp.opds])
    show evMkSlice es0 b0 zero0 l c env S = evMkSlice es0 b0 zero0 l c env' S
    simp only [evMkSlice, h_l, h_c]
  | sliceS es0 x lo hi mx =>
    have h_x := h x (by simp [KOp.opds, lapp_eq])
    have h_lo := bnd_congr (env := env) (env' := env') lo (fun x hx => h x (by simp only [KOp.opds, lapp_eq, List.mem_append, List.mem_cons]; simp [hx]))
    have h_hi := bnd_congr (env := env) (env' := env') hi (fun x hx => h x (by simp only [KOp.opds, lapp_eq, List.mem_append, List.mem_cons]; simp [hx]))
    have h_mx := bnd_congr (env := env) (env' := env') mx (fun x hx => h x (by simp only [KOp.opds, lapp_eq, List.mem_append, List.mem_cons]; simp [hx]))
    show evSliceS es0 x lo hi mx env S = evSliceS es0 x lo hi mx env' S
    simp only [evSliceS, K.bounds, h_x, h_lo, h_hi, h_mx]
  | sliceA n0 es0 x lo hi mx =>
    have h_x := h x (by simp [KOp.opds, lapp_eq])
    have h_lo := bnd_congr (env := env) (env' := env') lo (fun x hx => h x (by simp only [KOp.opds, lapp_eq, List.mem_append, List.mem_cons]; simp [hx]))
    have h_hi := bnd_congr (env := env) (env' := env') hi (fun x hx => h x (by simp only [KOp.opds, lapp_eq, List.mem_append, List.mem_cons]; simp [hx]))
    have h_mx := bnd_congr (env := env) (env' := env') mx (fun x hx => h x (by simp only [KOp.opds, lapp_eq, List.mem_append, List.mem_cons]; simp [hx]))
    show evSliceA n0 es0 x lo hi mx env S = evSliceA n0 es0 x lo hi mx env' S
    simp only [evSliceA, K.bounds, h_x, h_lo, h_hi, h_mx]
  | sliceStr x lo hi =>
    have h_x := h x (by simp [KOp.opds, lapp_eq])
    have h_lo := bnd_congr (env := env) (env' := env') lo (fun x hx => h x (by simp only [KOp.opds, lapp_eq, List.mem_append, List.mem_cons]; simp [hx]))
    have h_hi := bnd_congr (env := env) (env' := env') hi (fun x hx => h x (by simp only [KOp.opds, lapp_eq, List.mem_append, List.mem_cons]; simp [hx]))
    show evSliceStr x lo hi env S = evSliceStr x lo hi env' S
    simp only [evSliceStr, K.bounds, h_x, h_lo, h_hi]
    rfl
  | fieldAddr off0 x =>
    have h_x := h x (by simp [KOp.opds])
    show evFieldAddr off0 x env S = evFieldAddr off0 x env' S
    simp only [evFieldAddr, h_x]
  | field off0 n0 g0 x =>
    have h_x := h x (by simp [KOp.opds])
    show evField off0 n0 g0 x env S = evField off0 n0 g0 x env' S
    simp only [evField, h_x]
  | idxArr l0 es0 x i =>
    have h_x := h x (by simp [KOp.opds])
    have h_i := h i (by simp [KOp.opds])
    show evIdxArr l0 es0 x i env S = evIdxArr l0 es0 x i env' S
    simp only [evIdxArr, h_x, h_i]
  | idxSl es0 x i =>
    have h_x := h x (by simp [KOp.opds])
    have h_i := h i (by simp [KOp.opds])
    show evIdxSl es0 x i env S = evIdxSl es0 x i env' S
    simp only [evIdxSl, h_x, h_i]
  | index l0 es0 g0 x i =>
    have h_x := h x (by simp [KOp.opds])
    have h_i := h i (by simp [KOp.opds])
    show evIndex l0 es0 g0 x i env S = evIndex l0 es0 g0 x i env' S
    simp only [evIndex, h_x, h_i]
  | indexStr x i =>
    have h_x := h x (by simp [KOp.opds])
    have h_i := h i (by simp [KOp.opds])
    show evIndexStr x i env S = evIndexStr x i env' S
    simp only [evIndexStr, h_x, h_i]
  | lookup e0 z0 ok0 m k =>
    have h_m := h m (by simp [KOp.opds])
    have h_k := h k (by simp [KOp.opds])
    show evLookup e0 z0 ok0 m k env S = evLookup e0 z0 ok0 m k env' S
    simp only [evLookup, h_m, h_k]
  | mapUpdate e0 m k v =>
    have h_m := h m (by simp [KOp.opds])
    have h_k := h k (by simp [KOp.opds])
    have h_v := h v (by simp [KOp.opds])
    show evMapUpdate e0 m k v env S = evMapUpdate e0 m k v env' S
    simp only [evMapUpdate, h_m, h_k, h_v]
  | mapEntry e0 z0 m k =>
    have h_m := h m (by simp [KOp.opds])
    have h_k := h k (by simp [KOp.opds])
    show evMapEntry e0 z0 m k env S = evMapEntry e0 z0 m k env' S
    simp only [evMapEntry, h_m, h_k]
  | entryStore m s v =>
    have h_m := h m (by simp [KOp.opds])
    have h_s := h s (by simp [KOp.opds])
    have h_v := h v (by simp [KOp.opds])
    show evEntryStore m s v env S = evEntryStore m s v env' S
    simp only [evEntryStore, h_m, h_s, h_v]
  | rangeMap m =>
    have h_m := h m (by simp [KOp.opds])
    show evRangeMap m env S = evRangeMap m env' S
    simp only [evRangeMap, h_m]
  | nextMap it =>
    have h_it := h it (by simp [KOp.opds])
    show evNextMap it env S = evNextMap it env' S
    simp only [evNextMap, h_it]
  | entry it =>
    have h_it := h it (by simp [KOp.opds])
    show evEntry it env S = evEntry it env' S
    simp only [evEntry, h_it]
  | extract x i0 =>
    have h_x := h x (by simp [KOp.opds])
    show evExtract x i0 env S = evExtract x i0 env' S
    simp only [evExtract, h_x]
  | tassert t0 z0 ok0 x =>
    have h_x := h x (by simp [KOp.opds])
    show evTassert t0 z0 ok0 x env S = evTassert t0 z0 ok0 x env' S
    simp only [evTassert, h_x]
  | lenStr x =>
    have h_x := h x (by simp [KOp.opds])
    show evLenStr x env S = evLenStr x env' S
    simp only [evLenStr, h_x]
  | lenSl x =>
    have h_x := h x (by simp [KOp.opds])
    show evLenSl x env S = evLenSl x env' S
    simp only [evLenSl, h_x]
  | lenMap x =>
    have h_x := h x (by simp [KOp.opds])
    show evLenMap x env S = evLenMap x env' S
    simp only [evLenMap, h_x]
  | lenC n0 =>
    rfl
  | cap x =>
    have h_x := h x (by simp [KOp.opds])
    show evCap x env S = evCap x env' S
    simp only [evCap, h_x]
  | minmax mx0 l =>
    show evMinmax mx0 l env S = evMinmax mx0 l env' S
    cases l with
    | nil => rfl
    | cons y l =>
      have h1 := h y (by simp [KOp.opds])
      have h2 := looks_congr (env := env) (env' := env') l (fun x hx => h x (by simp [KOp.opds, hx]))
      simp only [evMinmax, h1, h2]
  | append es0 b0 s x =>
    have h_s := h s (by simp [KOp.opds])
    have h_x := h x (by simp [KOp.opds])
    show evAppend es0 b0 s x env S = evAppend es0 b0 s x env' S
    simp only [evAppend, h_s, h_x]
  | appendZ es0 b0 z0 s n =>
    have h_s := h s (by simp [KOp.opds])
    have h_n := h n (by simp [KOp.opds])
    show evAppendZ es0 b0 z0 s n env S = evAppendZ es0 b0 z0 s n env' S
    simp only [evAppendZ, h_s, h_n]
  | panic  =>
    rfl
  | copy es0 d s =>
    have h_d := h d (by simp [KOp.opds])
    have h_s := h s (by simp [KOp.opds])
    show evCopy es0 d s env S = evCopy es0 d s env' S
    simp only [evCopy, h_d, h_s]
  | delete e0 m k =>
    have h_m := h m (by simp [KOp.opds])
    have h_k := h k (by simp [KOp.opds])
    show evDelete e0 m k env S = evDelete e0 m k env' S
    simp only [evDelete, h_m, h_k]
  | clearS z0 s =>
    have h_s := h s (by simp [KOp.opds])
    show evClearS z0 s env S = evClearS z0 s env' S
    simp only [evClearS, h_s]
  | clearM m =>
    have h_m := h m (by simp [KOp.opds])
    show evClearM m env S = evClearM m env' S
    simp only [evClearM, h_m]
  | s2a n0 x =>
    have h_x := h x (by simp [KOp.opds])
    show evS2a n0 x env S = evS2a n0 x env' S
    simp only [evS2a, h_x]

/-! what an operation does to memory -/
/-- nothing, and memory is not looked at -/
def Pu (f : St → Res V) : Prop := (∃ c, ∀ S, f S = .err c) ∨ (∃ v, ∀ S, f S = .ok v S)
/-- nothing -/
def Rd (f : St → Res V) : Prop := ∀ S v S', f S = .ok v S' → S' = S
/-- a block more, whatever memory is -/
def Al (f : St → Res V) : Prop := (∃ c, ∀ S, f S = .err c) ∨ (∃ (v : Pa → V) (b : Blk), ∀ S, f S = .ok (v S.next) (S.new b))

theorem Pu.err {c : Nat} : Pu fun _ => .err c := .inl ⟨c, fun _ => rfl⟩
theorem Pu.ok {v : V} : Pu fun S => .ok v S := .inr ⟨v, fun _ => rfl⟩
theorem Pu.rbind {β : Type} {x : Option β} {f : β → St → Res V} (h : ∀ b, Pu (f b)) : Pu fun S => K.rbind x fun b => f b S := by
  cases x with
  | none => exact .inl ⟨1, fun _ => rfl⟩
  | some b => exact h b
theorem Pu.bIf {c : Bool} {a b : St → Res V} (h : Pu a) (h' : Pu b) : Pu fun S => K.bIf c (a S) (b S) := by
  cases c
  · exact h'
  · exact h
theorem Pu.okV {x : Option V} : Pu fun S => K.okV S x := by
  cases x with
  | none => exact .inl ⟨2, fun _ => rfl⟩
  | some v => exact .inr ⟨v, fun _ => rfl⟩
theorem Pu.onPtr {v : V} {k : Pa → Nat → St → Res V} (h : ∀ b o, Pu (k b o)) : Pu fun S => K.onPtr v fun b o => k b o S := by
  cases v <;> first | exact h _ _ | exact .inl ⟨_, fun _ => rfl⟩
theorem Pu.onInt {v : V} {k : Int → St → Res V} (h : ∀ n, Pu (k n)) : Pu fun S => K.onInt v fun n => k n S := by
  cases v <;> first | exact h _ | exact .inl ⟨_, fun _ => rfl⟩
theorem Pu.onAgg {v : V} {k : List V → St → Res V} (h : ∀ n, Pu (k n)) : Pu fun S => K.onAgg v fun n => k n S := by
  cases v <;> first | exact h _ | exact .inl ⟨_, fun _ => rfl⟩
theorem Pu.onTup {v : V} {k : List V → St → Res V} (h : ∀ n, Pu (k n)) : Pu fun S => K.onTup v fun n => k n S := by
  cases v <;> first | exact h _ | exact .inl ⟨_, fun _ => rfl⟩
theorem Pu.onStr {v : V} {k : List Nat → St → Res V} (h : ∀ n, Pu (k n)) : Pu fun S => K.onStr v fun n => k n S := by
  cases v <;> first | exact h _ | exact .inl ⟨_, fun _ => rfl⟩
theorem Pu.onSlice {v : V} {d : St → Res V} {k : Pa → Nat → Nat → Nat → St → Res V} (h : Pu d) (h' : ∀ b o l c, Pu (k b o l c)) : Pu fun S => K.onSlice v (d S) fun b o l c => k b o l c S := by
  cases v <;> first | exact h' _ _ _ _ | exact h | exact .inl ⟨_, fun _ => rfl⟩
theorem Pu.idxN {v : V} {n : Nat} {f : Nat → St → Res V} (h : ∀ k, Pu (f k)) : Pu fun S => K.idxN v n fun k => f k S := by
  unfold K.idxN
  refine Pu.onInt fun i => ?_
  cases i with
  | ofNat m => exact Pu.bIf (h m) Pu.err
  | negSucc m => exact Pu.err
theorem Pu.bounds {env : Env} {l c : Nat} {lo hi mx : Option Opd} {f : Nat → Nat → Nat → St → Res V} (h : ∀ a b c, Pu (f a b c)) : Pu fun S => K.bounds env l c lo hi mx fun a b c => f a b c S :=
  .rbind fun m => .rbind fun h' => .rbind fun l' => h l' h' m

theorem pure_ev (op : KOp) (env : Env) (h : op.touches = 0) : Pu (evalOp op env) := by
  cases op with
  | mov x => exact Pu.ok
  | pick c a b =>
    show Pu (evPick c a b env)
    unfold evPick
    cases env.look c <;> first | exact Pu.ok | exact Pu.err
  | build zero parts => exact Pu.rbind fun cs => Pu.ok
  | nilCheck x => exact Pu.bIf Pu.ok Pu.err
  | bin op x y => exact Pu.okV
  | un op x => exact Pu.okV
  | conv k x => exact Pu.onInt fun n => Pu.ok
  | strStr x => exact Pu.onStr fun n => Pu.ok
  | mkIface t x => exact Pu.ok
  | mkFunc f a b => exact Pu.ok
  | sliceA n es x lo hi mx => exact Pu.onPtr fun b o => Pu.bounds fun l h m => Pu.ok
  | sliceStr x lo hi => exact Pu.onStr fun t => Pu.bounds fun l h m => Pu.ok
  | fieldAddr off x => exact Pu.onPtr fun b o => Pu.ok
  | field off n g x => exact Pu.onAgg fun cs => Pu.okV
  | idxArr len es x i => exact Pu.onPtr fun b o => Pu.idxN fun n => Pu.ok
  | idxSl es x i => exact Pu.onSlice Pu.err fun b o l c => Pu.idxN fun n => Pu.ok
  | index len es g x i => exact Pu.onAgg fun cs => Pu.idxN fun n => Pu.okV
  | indexStr x i => exact Pu.onStr fun t => Pu.idxN fun n => Pu.okV
  | extract x i => exact Pu.onTup fun vs => Pu.okV
  | tassert t z ok x =>
    show Pu (evTassert t z ok x env)
    unfold evTassert
    cases env.look x <;> first | exact Pu.err | exact Pu.bIf Pu.ok Pu.err | exact Pu.bIf Pu.ok (Pu.bIf Pu.ok Pu.err)
  | lenStr x => exact Pu.onStr fun t => Pu.ok
  | lenSl x => exact Pu.onSlice Pu.ok fun b o l c => Pu.ok
  | lenC n => exact Pu.ok
  | minmax mx l =>
    cases l with
    | nil => exact Pu.err
    | cons y l => exact Pu.bIf Pu.okV Pu.err
  | s2a n x => exact Pu.onSlice (Pu.bIf Pu.ok Pu.err) fun b o l c => Pu.bIf Pu.ok Pu.err
  | _ => cases h

theorem Pu.rd {f : St → Res V} (h : Pu f) : Rd f := fun S v S' e => by
  rcases h with ⟨c, h⟩ | ⟨u, h⟩
  · rw [h] at e; cases e
  · rw [h] at e; cases e; rfl

theorem Rd.err {c : Nat} : Rd fun _ => .err c := Pu.err.rd
theorem Rd.ok {v : St → V} : Rd fun S => .ok (v S) S := fun _ _ _ e => by cases e; rfl
theorem Rd.rbind {β : Type} {x : St → Option β} {f : β → St → Res V} (h : ∀ b, Rd (f b)) : Rd fun S => K.rbind (x S) fun b => f b S := fun S v S' e => by
  obtain ⟨b, _, e⟩ := rbind_ok e
  exact h b S v S' e
theorem Rd.bIf {c : St → Bool} {a b : St → Res V} (h : Rd a) (h' : Rd b) : Rd fun S => K.bIf (c S) (a S) (b S) := fun S v S' e => by
  have e : K.bIf (c S) (a S) (b S) = .ok v S' := e
  cases hc : c S
  · rw [hc] at e; exact h' S v S' e
  · rw [hc] at e; exact h S v S' e
theorem Rd.onPtr {v : V} {k : Pa → Nat → St → Res V} (h : ∀ b o, Rd (k b o)) : Rd fun S => K.onPtr v fun b o => k b o S := fun S r S' e => by
  obtain ⟨b, o, _, e⟩ := onPtr_ok e; exact h b o S r S' e
theorem Rd.onSlice {v : V} {d : St → Res V} {k : Pa → Nat → Nat → Nat → St → Res V} (h : Rd d) (h' : ∀ b o l c, Rd (k b o l c)) : Rd fun S => K.onSlice v (d S) fun b o l c => k b o l c S := fun S r S' e => by
  rcases onSlice_ok e with ⟨_, e⟩ | ⟨b, o, l, c, _, e⟩
  · exact h S r S' e
  · exact h' b o l c S r S' e
theorem Rd.onMap {v : V} {d : St → Res V} {k : Pa → St → Res V} (h : Rd d) (h' : ∀ b, Rd (k b)) : Rd fun S => K.onMap v (d S) fun b => k b S := fun S r S' e => by
  rcases onMap_ok e with ⟨_, e⟩ | ⟨b, _, e⟩
  · exact h S r S' e
  · exact h' b S r S' e
theorem Rd.mapOf {r : Pa} {f : List Ent → Nat → St → Res V} (h : ∀ es c, Rd (f es c)) : Rd fun S => S.mapOf r fun es c => f es c S := fun S v S' e => by
  obtain ⟨es, c, _, e⟩ := mapOf_ok e
  exact h es c S v S' e
theorem Rd.lookRes {zero : V} {ok : Bool} {r : Option (Nat × V)} : Rd fun S => K.lookRes zero ok S r := fun S v S' e => by
  cases r with
  | none => cases e; rfl
  | some p => cases e; rfl
theorem Rd.bounds {env : Env} {l c : Nat} {lo hi mx : Option Opd} {f : Nat → Nat → Nat → St → Res V} (h : ∀ a b c, Rd (f a b c)) : Rd fun S => K.bounds env l c lo hi mx fun a b c => f a b c S :=
  .rbind fun m => .rbind fun h' => .rbind fun l' => h l' h' m

theorem read_ev (op : KOp) (env : Env) (h : op.touches ≤ 1) : Rd (evalOp op env) := by
  by_cases h0 : op.touches = 0
  · exact (pure_ev op env h0).rd
  · cases op with
    | load g n a => exact Rd.onPtr fun b o => Rd.rbind fun blk => Rd.bIf (Rd.rbind fun l => Rd.ok) (Rd.rbind fun v => Rd.ok)
    | eq neg e lit x y => exact Rd.bIf Rd.err (Rd.rbind fun r => Rd.ok)
    | toStr x => exact Rd.onSlice Rd.ok fun b o l c => Rd.rbind fun l => Rd.bIf Rd.ok Rd.err
    | lookup e z ok m k => exact Rd.bIf (Rd.onMap Rd.lookRes fun r => Rd.rbind fun b => Rd.rbind fun r => Rd.lookRes) Rd.err
    | entry it =>
      refine Rd.onPtr fun b o => Rd.bIf (Rd.rbind fun x => ?_) Rd.err
      cases x with
      | mapIter m since seen stepped => exact Rd.rbind fun m => Rd.rbind fun st => Rd.mapOf fun es c => Rd.bIf (Rd.rbind fun e => Rd.ok) Rd.err
      | _ => exact Rd.err
    | lenMap x => exact Rd.onMap Rd.ok fun r => Rd.mapOf fun es c => Rd.ok
    | cap x => exact Rd.onSlice Rd.ok fun b o l c => Rd.rbind fun blk => Rd.rbind fun _ => Rd.bIf Rd.ok Rd.err
    | sliceS es x lo hi mx => exact Rd.onSlice (Rd.bounds fun _ _ _ => Rd.ok) fun b o l c => Rd.rbind fun blk => Rd.rbind fun _ => Rd.bIf (Rd.bounds fun _ _ _ => Rd.ok) Rd.err
    | _ => simp [KOp.touches] at h h0

theorem Al.err {c : Nat} : Al fun _ => .err c := .inl ⟨c, fun _ => rfl⟩
theorem Al.ok {v : Pa → V} {b : Blk} : Al fun S => .ok (v S.next) (S.new b) := .inr ⟨v, b, fun _ => rfl⟩
theorem Al.rbind {β : Type} {x : Option β} {f : β → St → Res V} (h : ∀ b, Al (f b)) : Al fun S => K.rbind x fun b => f b S := by
  cases x with
  | none => exact .inl ⟨1, fun _ => rfl⟩
  | some b => exact h b
theorem Al.bIf {c : Bool} {a b : St → Res V} (h : Al a) (h' : Al b) : Al fun S => K.bIf c (a S) (b S) := by
  cases c
  · exact h'
  · exact h

theorem alloc_ev (op : KOp) (env : Env) (h : op.touches = 2) : Al (evalOp op env) := by
  cases op with
  | new zero => exact .inr ⟨fun p => .ptr p 0, _, fun _ => rfl⟩
  | newBig n z => exact .inr ⟨fun p => .ptr p 0, _, fun _ => rfl⟩
  | box x => exact Al.bIf (.inr ⟨fun p => .ptr p 0, _, fun _ => rfl⟩) Al.err
  | buildSlice len n zero parts => exact Al.rbind fun cs => .inr ⟨fun p => .slice p 0 len len, _, fun _ => rfl⟩
  | mkMap => exact .inr ⟨fun p => .map p, _, fun _ => rfl⟩
  | mkSlice es bytes zero l c => exact Al.rbind fun c => Al.rbind fun l => Al.bIf (.inr ⟨fun p => .slice p 0 l c, _, fun _ => rfl⟩) Al.err
  | _ => cases h

end Go.K

namespace Go.K

/-! masks of the operations before -/
theorem hasBit_eq (m i : Nat) : hasBit m i = m.testBit i := by
  unfold hasBit
  rw [natBeq_eq, Nat.testBit_eq_decide_div_mod_eq]
  rfl

def Cl (ops : List Oper) (D : Nat → Prop) (j : Nat) : Prop := ∀ o, ops[j]? = some o → ∀ e ∈ o.after.toList, Region.binds .any e = true → D e.on

noncomputable def mask (acc : List Nat) (o : Oper) : Nat := Array.foldl (fun s e => Bool.rec s (Nat.lor (Nat.lor s (Nat.pow 2 e.on)) (optD 0 (lget acc e.on))) (Region.binds .any e)) 0 o.after

theorem befores_cons (o : Oper) (l : List Oper) (acc : List Nat) : befores (o :: l) acc = befores l (acc ++ [mask acc o]) := by
  rw [← lapp_eq]; rfl

theorem mask_bits {acc : List Nat} {o : Oper} {i : Nat} (h : hasBit (mask acc o) i = true) :
    ∃ e ∈ o.after.toList, Region.binds .any e = true ∧ (i = e.on ∨ hasBit (optD 0 (lget acc e.on)) i = true) := by
  unfold mask at h
  rw [← Array.foldl_toList] at h
  have key : ∀ (l : List Edge) (s : Nat), hasBit (l.foldl (fun s e => Bool.rec s (Nat.lor (Nat.lor s (Nat.pow 2 e.on)) (optD 0 (lget acc e.on))) (Region.binds .any e)) s) i = true →
      hasBit s i = true ∨ ∃ e ∈ l, Region.binds .any e = true ∧ (i = e.on ∨ hasBit (optD 0 (lget acc e.on)) i = true) := by
    intro l
    induction l with
    | nil => intro s h; exact .inl h
    | cons e l ih =>
      intro s h
      rw [List.foldl_cons] at h
      rcases ih _ h with h1 | ⟨e', he', h1⟩
      · cases hb : Region.binds .any e with
        | false => rw [hb] at h1; exact .inl h1
        | true =>
          rw [hb] at h1
          have h1 : hasBit ((s ||| 2 ^ e.on) ||| optD 0 (lget acc e.on)) i = true := h1
          rw [hasBit_eq, Nat.testBit_or, Nat.testBit_or, Nat.testBit_two_pow] at h1
          simp only [Bool.or_eq_true, decide_eq_true_eq] at h1
          rcases h1 with (h1 | h1) | h1
          · exact .inl (by rw [hasBit_eq]; exact h1)
          · exact .inr ⟨e, by simp, hb, .inl h1.symm⟩
          · exact .inr ⟨e, by simp, hb, .inr (by rw [hasBit_eq]; exact h1)⟩
      · exact .inr ⟨e', by simp [he'], h1⟩
  rcases key _ 0 h with h1 | h1
  · rw [hasBit_eq] at h1; simp at h1
  · exact h1

theorem befores_get : ∀ (l : List Oper) (acc : List Nat) (j : Nat), acc.length ≤ j → j < acc.length + l.length →
    ∃ o, l[j - acc.length]? = some o ∧ (befores l acc)[j]? = some (mask ((befores l acc).take j) o)
  | [], acc, j, h1, h2 => by simp at h2; omega
  | o :: l, acc, j, h1, h2 => by
    rw [befores_cons]
    have pre : ∀ (l : List Oper) (acc : List Nat), (befores l acc).take acc.length = acc := by
      intro l
      induction l with
      | nil => intro acc; show acc.take acc.length = acc; simp
      | cons o l ih =>
        intro acc
        rw [befores_cons]
        have := ih (acc ++ [mask acc o])
        have h2 : ((befores l (acc ++ [mask acc o])).take (acc ++ [mask acc o]).length).take acc.length = (acc ++ [mask acc o]).take acc.length := by rw [this]
        rw [List.take_take] at h2
        simpa using h2
    by_cases hj : j = acc.length
    · subst hj
      have hp := pre l (acc ++ [mask acc o])
      have e1 : (befores l (acc ++ [mask acc o])).take acc.length = acc := by
        have h2 : ((befores l (acc ++ [mask acc o])).take (acc ++ [mask acc o]).length).take acc.length = (acc ++ [mask acc o]).take acc.length := by rw [hp]
        rw [List.take_take] at h2
        simpa using h2
      refine ⟨o, by simp, ?_⟩
      rw [e1]
      have h3 : ((befores l (acc ++ [mask acc o])).take (acc ++ [mask acc o]).length)[acc.length]? = some (mask acc o) := by rw [hp]; simp
      rw [List.getElem?_take] at h3
      simpa using h3
    · obtain ⟨o', h3, h4⟩ := befores_get l (acc ++ [mask acc o]) j (by simp; omega) (by simp at h2 ⊢; omega)
      refine ⟨o', ?_, h4⟩
      rw [show j - acc.length = (j - (acc ++ [mask acc o]).length) + 1 by simp; omega]
      simpa using h3

/-- what a mask names is done, where all that was done (and what the operation waits for) is closed -/
theorem bef_done {ops : List Oper} {D : Nat → Prop} (hD : ∀ j, j < ops.length → D j → Cl ops D j) : ∀ (j : Nat), j < ops.length → (∀ i, D i → i < ops.length) → Cl ops D j → ∀ i, hasBit (optD 0 (lget (befores ops []) j)) i = true → D i := by
  intro j
  induction j using Nat.strongRecOn with
  | _ j ih =>
    intro hj hlt hc i hb
    obtain ⟨o, ho, hm⟩ := befores_get ops [] j (by simp) (by simpa using hj)
    simp only [List.length_nil, Nat.sub_zero] at ho
    rw [lget_eq, hm] at hb
    obtain ⟨e, he, hbi, h⟩ := mask_bits (show hasBit (mask ((befores ops []).take j) o) i = true from hb)
    have hde := hc o ho e he hbi
    rcases h with rfl | h
    · exact hde
    · rw [lget_eq, List.getElem?_take] at h
      by_cases hlt' : e.on < j
      · rw [if_pos hlt'] at h
        exact ih e.on hlt' (hlt _ hde) hlt (hD _ (hlt _ hde) hde) i (by rw [lget_eq]; exact h)
      · rw [if_neg hlt'] at h
        rw [hasBit_eq] at h
        simp [optD] at h

/-! writes stand in a chain -/
theorem writers_mem : ∀ (ts : List Nat) (i j : Nat), j ∈ writers ts i ↔ ∃ n, ts[n]? = some 3 ∧ j = i + n
  | [], i, j => by simp [writers]
  | t :: ts, i, j => by
    have e : writers (t :: ts) i = bIf (Nat.beq t 3) (i :: writers ts (i + 1)) (writers ts (i + 1)) := rfl
    rw [e, bIf_eq]
    have ih := writers_mem ts (i + 1) j
    constructor
    · intro h
      have h : (j = i ∧ t = 3) ∨ j ∈ writers ts (i + 1) := by
        split at h
        · rename_i hb
          rcases List.mem_cons.1 h with h | h
          · exact .inl ⟨h, Nat.eq_of_beq_eq_true hb⟩
          · exact .inr h
        · exact .inr h
      rcases h with ⟨rfl, rfl⟩ | h
      · exact ⟨0, by simp, by simp⟩
      · obtain ⟨n, h1, h2⟩ := ih.1 h
        exact ⟨n + 1, by simpa using h1, by omega⟩
    · rintro ⟨n, h1, h2⟩
      cases n with
      | zero =>
        simp at h1; subst h1
        rw [if_pos (show Nat.beq 3 3 = true from rfl)]; simp [h2]
      | succ n =>
        have : j ∈ writers ts (i + 1) := ih.2 ⟨n, by simpa using h1, by omega⟩
        split
        · exact List.mem_cons_of_mem _ this
        · exact this

theorem writers_sorted : ∀ (ts : List Nat) (i : Nat), (writers ts i).Pairwise (· < ·)
  | [], i => by show List.Pairwise _ []; exact List.Pairwise.nil
  | t :: ts, i => by
    have e : writers (t :: ts) i = bIf (Nat.beq t 3) (i :: writers ts (i + 1)) (writers ts (i + 1)) := rfl
    rw [e, bIf_eq]
    split
    · refine List.Pairwise.cons (fun j hj => ?_) (writers_sorted ts (i + 1))
      obtain ⟨n, _, h⟩ := (writers_mem _ _ _).1 hj
      omega
    · exact writers_sorted ts (i + 1)

theorem chain_done {ops : List Oper} {D : Nat → Prop} (hD : ∀ j, j < ops.length → D j → Cl ops D j) (hlt : ∀ i, D i → i < ops.length) {j : Nat} (hj : j < ops.length) (hc : Cl ops D j) :
    ∀ (ws : List Nat), chainOk (befores ops []) ws = true → ws.Pairwise (· < ·) → ∀ i ∈ ws, j ∈ ws → i < j → D i
  | [], _, _, i, h, _, _ => by cases h
  | [a], _, _, i, h, h', hij => by simp at h h'; omega
  | a :: b :: l, hk, hs, i, h, h', hij => by
    have hk' : bIf (hasBit (optD 0 (lget (befores ops []) b)) a) (chainOk (befores ops []) (b :: l)) false = true := hk
    rw [bIf_eq] at hk'
    split at hk'
    · rename_i hab
      have ih := chain_done hD hlt hj hc (b :: l) hk' hs.tail
      rcases List.mem_cons.1 h with rfl | hi
      · rcases List.mem_cons.1 h' with rfl | hj'
        · omega
        · by_cases hbj : b = j
          · subst hbj; exact bef_done hD b hj hlt hc i hab
          · have hb : D b := by
              refine ih b (by simp) hj' ?_
              rcases List.mem_cons.1 hj' with h1 | h1
              · exact absurd h1.symm hbj
              · exact List.rel_of_pairwise_cons hs.tail h1
            exact bef_done hD b (hlt _ hb) hlt (hD _ (hlt _ hb) hb) i hab
      · rcases List.mem_cons.1 h' with rfl | hj'
        · have := List.rel_of_pairwise_cons hs hi; omega
        · exact ih i hi hj' hij
    · cases hk'

/-! counts -/
theorem countL_le {f g : Nat → Bool} : ∀ (l : List Nat), (∀ i ∈ l, f i = true → g i = true) → countL f l ≤ countL g l
  | [], _ => Nat.le_refl _
  | a :: l, h => by
    have e : ∀ f : Nat → Bool, countL f (a :: l) = bIf (f a) (Nat.succ (countL f l)) (countL f l) := fun _ => rfl
    rw [e, e, bIf_eq, bIf_eq]
    have ih := countL_le l fun i hi => h i (by simp [hi])
    split
    · rename_i hf
      rw [if_pos (h a (by simp) hf)]; omega
    · split <;> omega

/-- how many of the list stand before a place -/
noncomputable def below (ws : List Nat) (q : Nat) : Nat := countL (fun i => Nat.blt i q) ws

theorem below_succ (ts : List Nat) (q : Nat) : ∀ i, below (writers ts i) (q + 1) = below (writers ts i) q + (if i ≤ q ∧ ts[q - i]? = some 3 then 1 else 0) := by
  induction ts with
  | nil => intro i; simp [writers, below, countL]
  | cons t ts ih =>
    intro i
    have e : writers (t :: ts) i = bIf (Nat.beq t 3) (i :: writers ts (i + 1)) (writers ts (i + 1)) := rfl
    have hc : ∀ q (l : List Nat), below (i :: l) q = (if i < q then 1 else 0) + below l q := fun q l => by
      show bIf (Nat.blt i q) (Nat.succ (below l q)) (below l q) = _
      rw [bIf_eq]
      by_cases h : i < q
      · rw [if_pos (show Nat.blt i q = true from Nat.ble_eq_true_of_le h), if_pos h]; omega
      · rw [if_neg (show ¬ Nat.blt i q = true from fun h' => h (Nat.le_of_ble_eq_true h')), if_neg h]; omega
    have hz : ∀ q', q' ≤ i + 1 → below (writers ts (i + 1)) q' = 0 := fun q' hq' => by
      have : ∀ (l : List Nat), (∀ j ∈ l, q' ≤ j) → below l q' = 0 := by
        intro l
        induction l with
        | nil => intro _; rfl
        | cons a l ih' =>
          intro h
          show bIf (Nat.blt a q') (Nat.succ (below l q')) (below l q') = 0
          rw [bIf_eq, if_neg (fun h' => by have := h a (by simp); have := Nat.le_of_ble_eq_true h'; omega)]
          exact ih' fun j hj => h j (by simp [hj])
      exact this _ fun j hj => by obtain ⟨n, _, h⟩ := (writers_mem _ _ _).1 hj; omega
    have ih := ih (i + 1)
    rw [e, bIf_eq]
    by_cases ht : Nat.beq t 3 = true
    · rw [if_pos ht, hc, hc]
      have ht' := Nat.eq_of_beq_eq_true ht
      by_cases hq : q = i
      · subst hq
        rw [hz _ (Nat.le_refl _), hz _ (by omega)]
        simp [ht']
      · by_cases hlt : i < q
        · rw [ih]
          have : (t :: ts)[q - i]? = ts[q - (i + 1)]? := by rw [show q - i = (q - (i + 1)) + 1 by omega]; simp
          rw [this, if_pos (by omega), if_pos hlt]
          have e2 : (i ≤ q ∧ ts[q - (i + 1)]? = some 3) ↔ (i + 1 ≤ q ∧ ts[q - (i + 1)]? = some 3) := ⟨fun h => ⟨hlt, h.2⟩, fun h => ⟨by omega, h.2⟩⟩
          rw [show (if i ≤ q ∧ ts[q - (i + 1)]? = some 3 then 1 else 0) = (if i + 1 ≤ q ∧ ts[q - (i + 1)]? = some 3 then 1 else 0) from by simp only [e2]]
          omega
        · rw [if_neg (by omega), if_neg (by omega), if_neg (by omega), hz _ (by omega), hz _ (by omega)]
    · rw [if_neg ht]
      have ht' : t ≠ 3 := fun h => ht (by subst h; rfl)
      by_cases hq : q = i
      · subst hq
        rw [hz _ (Nat.le_refl _), hz _ (by omega)]
        simp [ht']
      · by_cases hlt : i < q
        · rw [ih]
          have : (t :: ts)[q - i]? = ts[q - (i + 1)]? := by rw [show q - i = (q - (i + 1)) + 1 by omega]; simp
          rw [this]
          have e2 : (i ≤ q ∧ ts[q - (i + 1)]? = some 3) ↔ (i + 1 ≤ q ∧ ts[q - (i + 1)]? = some 3) := ⟨fun h => ⟨hlt, h.2⟩, fun h => ⟨by omega, h.2⟩⟩
          rw [show (if i ≤ q ∧ ts[q - (i + 1)]? = some 3 then 1 else 0) = (if i + 1 ≤ q ∧ ts[q - (i + 1)]? = some 3 then 1 else 0) from by simp only [e2]]
        · rw [if_neg (by omega), hz _ (by omega), hz _ (by omega)]

end Go.K

namespace Go.K
variable {cf : CF}

structure Pt where
  d : DSt
  fr : Fr
  S : St

/-- a drawn region's run in the order of the text -/
structure TRun (cf : CF) (l : List KOper) (T : Nat → Pt) : Prop where
  step : ∀ i ko, l[i]? = some ko → stepR cf ko (T i).d.rid (T i).fr (T i).S = .ok (T (i + 1)).fr (T (i + 1)).S ∧ (T (i + 1)).d = stepD ko (T i).d (T i).fr (T i).S
  chk : ∀ r ∈ (T l.length).d.recs, ∀ p ∈ ((T l.length).d.m, (T l.length).S) :: (T l.length).d.ps, recOk p.1 p.2 r = true

theorem stepsD_run : ∀ (l : List KOper) (d : DSt) (fr fr' : Fr) (S S' : St), stepsD cf l d fr S = .ok fr' S' →
    ∃ T, TRun cf l T ∧ T 0 = ⟨d, fr, S⟩ ∧ (T l.length).fr = fr' ∧ (T l.length).S = S'
  | [], d, fr, fr', S, S', h => by
    obtain ⟨hc, h⟩ := bIf_err (show bIf (lall (recsOk d.recs) ((d.m, S) :: d.ps)) (.ok fr S) (.err 50) = Res.ok fr' S' from h)
    cases h
    refine ⟨fun _ => ⟨d, fr, S⟩, ⟨fun i ko hi => by simp at hi, fun r hr p hp => ?_⟩, rfl, rfl, rfl⟩
    exact (lall_iff _ _).1 ((lall_iff _ _).1 hc p hp) r hr
  | ko :: l, d, fr, fr', S, S', h => by
    obtain ⟨fr₁, S₁, h1, h2⟩ := resBind_ok (show resBind (stepR cf ko d.rid fr S) (stepsD cf l (stepD ko d fr S)) = .ok fr' S' from h)
    obtain ⟨T, hT, h0, e1, e2⟩ := stepsD_run l _ fr₁ fr' S₁ S' h2
    refine ⟨fun n => match n with | 0 => ⟨d, fr, S⟩ | n + 1 => T n, ⟨fun i ko' hi => ?_, fun r hr p hp => hT.chk r hr p hp⟩, rfl, e1, e2⟩
    cases i with
    | zero =>
      simp at hi; subst hi
      show stepR cf ko d.rid fr S = .ok (T 0).fr (T 0).S ∧ (T 0).d = stepD ko d fr S
      rw [h0]; exact ⟨h1, rfl⟩
    | succ i => exact hT.step i ko' (by simpa using hi)

def isWr (o : KOper) : Bool := match o with
  | .ev c _ _ _ => (match c with | .write => true | _ => false)
  | _ => true

theorem KOp.touches_le (op : KOp) : op.touches ≤ 3 := by cases op <;> simp [KOp.touches]
theorem KOper.touches_le (o : KOper) : o.touches ≤ 3 := by
  cases o with
  | ev c g d op => exact op.touches_le
  | _ => exact Nat.le_refl _

/-- the kinds of operations -/
inductive Kind (bef ws : List Nat) (j : Nat) : KOper → Prop where
  | pure {g d op} (h : op.touches = 0) : Kind bef ws j (.ev .pure g d op)
  | read {g d op} (h : op.touches = 1) : Kind bef ws j (.ev (.read (countL (fun i => hasBit (optD 0 (lget bef j)) i) ws) (countL (fun i => bnot (hasBit (optD 0 (lget bef i)) j)) ws)) g d op)
  | alloc {g d op} (h : op.touches = 2) : Kind bef ws j (.ev (.alloc (countL (fun i => hasBit (optD 0 (lget bef j)) i) ws) (countL (fun i => bnot (hasBit (optD 0 (lget bef i)) j)) ws)) g d op)
  | write {ko} (h : isWr ko = true) (ha : isAlloc ko = false) : Kind bef ws j ko

theorem kind_of (bef ws : List Nat) (j : Nat) (o : KOper) : Kind bef ws j (o.withCls (clsOf bef ws j o.touches)) ∧ (isWr (o.withCls (clsOf bef ws j o.touches)) = true ↔ o.touches = 3) := by
  cases o with
  | ev c g d op =>
    have hle := op.touches_le
    show Kind bef ws j (.ev (clsOf bef ws j op.touches) g d op) ∧ (isWr (.ev (clsOf bef ws j op.touches) g d op) = true ↔ op.touches = 3)
    match ht : op.touches, hle with
    | 0, _ => exact ⟨.pure ht, ⟨fun h => (by cases h), fun h => (by cases h)⟩⟩
    | 1, _ => exact ⟨.read ht, ⟨fun h => (by cases h), fun h => (by cases h)⟩⟩
    | 2, _ => exact ⟨.alloc ht, ⟨fun h => (by cases h), fun h => (by cases h)⟩⟩
    | 3, _ => exact ⟨.write rfl rfl, ⟨fun _ => rfl, fun _ => rfl⟩⟩
  | call g d f l => exact ⟨.write rfl rfl, ⟨fun _ => rfl, fun _ => rfl⟩⟩
  | defer g d f l => exact ⟨.write rfl rfl, ⟨fun _ => rfl, fun _ => rfl⟩⟩

theorem withClasses_get (bef ws : List Nat) : ∀ (l : List KOper) (j i : Nat), (withClasses bef ws l j)[i]? = (l[i]?).map fun o => o.withCls (clsOf bef ws (j + i) o.touches)
  | [], j, i => by simp [withClasses]
  | o :: l, j, i => by
    have e : withClasses bef ws (o :: l) j = o.withCls (clsOf bef ws j o.touches) :: withClasses bef ws l (j + 1) := rfl
    rw [e]
    cases i with
    | zero => simp
    | succ i =>
      rw [List.getElem?_cons_succ, List.getElem?_cons_succ, withClasses_get bef ws l (j + 1) i]
      rw [show j + 1 + i = j + (i + 1) by omega]

theorem withClasses_length (bef ws : List Nat) : ∀ (l : List KOper) (j : Nat), (withClasses bef ws l j).length = l.length
  | [], j => rfl
  | o :: l, j => by
    have e : withClasses bef ws (o :: l) j = o.withCls (clsOf bef ws j o.touches) :: withClasses bef ws l (j + 1) := rfl
    rw [e, List.length_cons, List.length_cons, withClasses_length]

theorem cOper_withCls {cx : Cx} {fid N : Nat} {ops : List Oper} {o : Oper} {ko : KOper} (c : Cls) (h : cOper cx fid N ops .pure o = some ko) : cOper cx fid N ops c o = some (ko.withCls c) := by
  unfold cOper at h ⊢
  obtain ⟨g, hg, h⟩ := obind_some h
  obtain ⟨d, hd, h⟩ := obind_some h
  rw [hg, hd]
  show (match o.op with
    | .call c' => match c'.callee with
      | .builtin _ => obind (cOp cx o.op) fun k => some (KOper.ev c g d k)
      | callee => obind (cCallee cx (key fid o.dst) callee) fun f => obind (cOpds c'.args) fun l => some (.call g d f l)
    | .defer c' => match c'.callee with
      | .value a => obind (cOpd a) fun f => obind (cOpds c'.args) fun l => some (.defer g d f l)
      | _ => none
    | op => obind (cOp cx op) fun k => some (KOper.ev c g d k)) = some (ko.withCls c)
  split
  · rename_i c' ho
    rw [ho] at h
    dsimp only at h
    split
    · rename_i b hb
      rw [hb] at h
      obtain ⟨k, hk, h⟩ := obind_some h
      cases h
      rw [show cOp cx o.op = some k by rw [ho]; exact hk]; rfl
    · rename_i hb
      split at h
      · rename_i b' hb'; exact absurd hb' (by intro e; exact hb _ e)
      · obtain ⟨f, hf, h⟩ := obind_some h
        obtain ⟨l, hl, h⟩ := obind_some h
        cases h
        rw [hf, hl]; rfl
  · rename_i c' ho
    rw [ho] at h
    dsimp only at h
    split
    · rename_i a ha
      rw [ha] at h
      obtain ⟨f, hf, h⟩ := obind_some h
      obtain ⟨l, hl, h⟩ := obind_some h
      cases h
      rw [hf, hl]; rfl
    · rename_i ha
      split at h
      · rename_i a' ha'; exact absurd ha' (by intro e; exact ha _ e)
      · cases h
  · rename_i op h1 h2
    split at h
    · rename_i c' ho; exact absurd ho (h1 c')
    · rename_i c' ho; exact absurd ho (h2 c')
    · obtain ⟨k, hk, h⟩ := obind_some h
      cases h
      rw [hk]; rfl

/-! one step of the run -/
theorem step_ev {c : Cls} {g : Option (Pa × Bool)} {d : Option Pa} {op : KOp} {fr fr' : Fr} {S S' : St} (h : step cf (.ev c g d op) fr S = .ok fr' S') :
    (wanted fr.env g = true ∧ ∃ v, evalOp op fr.env S = .ok v S' ∧ fr' = ⟨putD fr.env d v, fr.defers⟩) ∨ (wanted fr.env g = false ∧ S' = S ∧ fr' = ⟨putD fr.env d undefV, fr.defers⟩) := by
  have h : bIf (wanted fr.env g) (resBind (evalOp op fr.env S) fun v s => Res.ok ⟨putD fr.env d v, fr.defers⟩ s) (.ok ⟨putD fr.env d undefV, fr.defers⟩ S) = .ok fr' S' := h
  cases hw : wanted fr.env g with
  | false => rw [hw] at h; cases h; exact .inr ⟨rfl, rfl, rfl⟩
  | true =>
    rw [hw] at h
    obtain ⟨v, S₁, hev, h⟩ := resBind_ok (show resBind (evalOp op fr.env S) (fun v s => Res.ok ⟨putD fr.env d v, fr.defers⟩ s) = Res.ok fr' S' from h)
    cases h
    exact .inl ⟨rfl, v, hev, rfl⟩

theorem step_ev_mk {c : Cls} {g : Option (Pa × Bool)} {d : Option Pa} {op : KOp} {env : Env} {ds : List (V × List V)} {v : V} {S S' : St} (hw : wanted env g = true) (h : evalOp op env S = .ok v S') :
    step cf (.ev c g d op) ⟨env, ds⟩ S = .ok ⟨putD env d v, ds⟩ S' := by
  show bIf (wanted env g) (resBind (evalOp op env S) fun v s => Res.ok (⟨putD env d v, ds⟩ : Fr) s) (.ok ⟨putD env d undefV, ds⟩ S) = _
  rw [hw, h]; rfl

theorem step_no {ko : KOper} {env : Env} {ds : List (V × List V)} (S : St) (hw : wanted env ko.guard = false) : step cf ko ⟨env, ds⟩ S = .ok ⟨putD env ko.dst undefV, ds⟩ S := by
  cases ko with
  | ev c g d op =>
    show bIf (wanted env g) _ (Res.ok (⟨putD env d undefV, ds⟩ : Fr) S) = _
    rw [show wanted env g = false from hw]; rfl
  | call g d f l =>
    show bIf (wanted env g) _ (Res.ok (⟨putD env d undefV, ds⟩ : Fr) S) = _
    rw [show wanted env g = false from hw]; rfl
  | defer g d f l =>
    show bIf (wanted env g) _ (Res.ok (⟨putD env d undefV, ds⟩ : Fr) S) = _
    rw [show wanted env g = false from hw]; rfl

/-- a step puts one value, and depends on what it looks at alone -/
theorem step_congr {ko : KOper} {env env' : Env} {ds : List (V × List V)} {fr' : Fr} {S S' : St} (hg : ∀ p, ko.guard = some p → envAt env p.1 = envAt env' p.1) (ho : ∀ x ∈ ko.opds, env.look x = env'.look x)
    (h : step cf ko ⟨env, ds⟩ S = .ok fr' S') : ∃ v, fr'.env = putD env ko.dst v ∧ step cf ko ⟨env', ds⟩ S = .ok ⟨putD env' ko.dst v, fr'.defers⟩ S' := by
  have hw : wanted env ko.guard = wanted env' ko.guard := by
    unfold wanted
    cases hk : ko.guard with
    | none => rfl
    | some p => show isB p.2 (envAt env p.1) = isB p.2 (envAt env' p.1); rw [hg p hk]
  cases hwt : wanted env ko.guard with
  | false =>
    rw [step_no S hwt] at h
    cases h
    exact ⟨undefV, rfl, step_no S (by rw [← hw]; exact hwt)⟩
  | true =>
    have hwt' : wanted env' ko.guard = true := by rw [← hw]; exact hwt
    cases ko with
    | ev c g d op =>
      have hwt : wanted env g = true := hwt
      rcases step_ev h with ⟨_, v, hev, rfl⟩ | ⟨hf, _⟩
      · exact ⟨v, rfl, step_ev_mk hwt' (by rw [← evalOp_congr op ho]; exact hev)⟩
      · rw [show wanted env g = false from hf] at hwt; cases hwt
    | call g d f l =>
      have hl : looks env l = looks env' l := looks_congr l fun x hx => ho x (by simp [KOper.opds, lapp_eq, hx])
      have ht : target env f l = target env' f l := by
        cases f with
        | fn f => show some (Req.fn f (looks env l)) = some (Req.fn f (looks env' l)); rw [hl]
        | val x =>
          show targetVal (env.look x) (looks env l) = targetVal (env'.look x) (looks env' l)
          rw [hl, ho x (by simp [KOper.opds, lapp_eq, KCallee.opds])]
        | inv x tab =>
          show targetInv (env.look x) tab (looks env l) = targetInv (env'.look x) tab (looks env' l)
          rw [hl, ho x (by simp [KOper.opds, lapp_eq, KCallee.opds])]
      have e : ∀ env : Env, step cf (.call g d f l) ⟨env, ds⟩ S = bIf (wanted env g) (rbind (target env f l) fun r => resBind (cf r S) fun v s => .ok ⟨putD env d v, ds⟩ s) (.ok ⟨putD env d undefV, ds⟩ S) := fun _ => rfl
      rw [e, show wanted env g = true from hwt] at h
      obtain ⟨r, hr, h⟩ := rbind_ok (show rbind (target env f l) (fun r => resBind (cf r S) fun v s => .ok ⟨putD env d v, ds⟩ s) = Res.ok fr' S' from h)
      obtain ⟨v, S₁, hc, h⟩ := resBind_ok h
      cases h
      refine ⟨v, rfl, ?_⟩
      rw [e, show wanted env' g = true from hwt', ← ht, hr]
      show resBind (cf r S) (fun v s => Res.ok (⟨putD env' d v, ds⟩ : Fr) s) = _
      rw [hc]; rfl
    | defer g d f l =>
      have hl : looks env l = looks env' l := looks_congr l fun x hx => ho x (by simp [KOper.opds, hx])
      have hf : env.look f = env'.look f := ho f (by simp [KOper.opds])
      have e : ∀ env : Env, step cf (.defer g d f l) ⟨env, ds⟩ S = bIf (wanted env g) (bIf (isFnV (env.look f)) (.ok ⟨putD env d undefV, (env.look f, looks env l) :: ds⟩ S) (.err 66)) (.ok ⟨putD env d undefV, ds⟩ S) := fun _ => rfl
      rw [e, show wanted env g = true from hwt] at h
      obtain ⟨hfn, h⟩ := bIf_err (show bIf (isFnV (env.look f)) (Res.ok ⟨putD env d undefV, (env.look f, looks env l) :: ds⟩ S) (.err 66) = Res.ok fr' S' from h)
      cases h
      refine ⟨undefV, rfl, ?_⟩
      rw [e, show wanted env' g = true from hwt', ← hf, ← hl]
      show bIf (isFnV (env.look f)) (Res.ok (⟨putD env' d undefV, (env.look f, looks env l) :: ds⟩ : Fr) S) (.err 66) = _
      rw [hfn]; rfl

end Go.K

namespace Go.K
variable {cc : CC} {ρ ρ' ρ₁ : Rho} {S S' S₁ D D' : St} {w w' w₁ : World}

/-- a step from memory to memory, whatever numbers are used -/
structure Mv (cc : CC) (ρ : Rho) (S : St) (w : World) (ρ' : Rho) (S' : St) (w' : World) : Prop where
  rel : Rel cc ρ' S' w'
  frm : Frm ρ S w w'
  shr : ∀ blk o, Owned ρ' S' blk o → Owned ρ S blk o ∨ w.heap.size ≤ blk
  blks : ∀ blk, OwnB ρ' S' blk → OwnB ρ S blk ∨ w.heap.size ≤ blk

theorem Sim.mv (h : Sim cc ρ S w ρ' S' w') : Mv cc ρ S w ρ' S' w' := ⟨h.rel, h.frm, h.shr, h.blks⟩

theorem Mv.trans (h : Mv cc ρ S w ρ₁ S₁ w₁) (h' : Mv cc ρ₁ S₁ w₁ ρ' S' w') : Mv cc ρ S w ρ' S' w' := by
  refine ⟨h'.rel, h.frm.trans h.shr h'.frm, fun blk o ho => ?_, fun blk ho => ?_⟩
  · rcases h'.shr blk o ho with h1 | h1
    · exact h.shr blk o h1
    · exact .inr (Nat.le_trans h.frm.size h1)
  · rcases h'.blks blk ho with h1 | h1
    · exact h.blks blk h1
    · exact .inr (Nat.le_trans h.frm.size h1)

/-- a part of the memory -/
def Sub (S D : St) : Prop := ∀ id b, S.get id = some b → D.get id = some b

theorem Sub.refl (S : St) : Sub S S := fun _ _ h => h

theorem Rel.sub (h : Rel cc ρ D w) (hs : Sub S D) : Rel cc ρ S w :=
  ⟨fun id L b h1 h2 => h.blk id L b h1 (hs _ _ h2), fun id id' L L' b b' hne h1 h2 h3 h4 => h.apart id id' L L' b b' hne h1 h2 (hs _ _ h3) (hs _ _ h4)⟩

theorem Owned.sub {blk o : Nat} (h : Owned ρ S blk o) (hs : Sub S D) : Owned ρ D blk o := let ⟨id, L, b, h1, h2, h3⟩ := h; ⟨id, L, b, h1, hs _ _ h2, h3⟩
theorem OwnB.sub {blk : Nat} (h : OwnB ρ S blk) (hs : Sub S D) : OwnB ρ D blk := let ⟨id, L, b, h1, h2, h3⟩ := h; ⟨id, L, b, h1, hs _ _ h2, h3⟩

theorem Frm.sub (h : Frm ρ S w w') (hs : Sub S D) : Frm ρ D w w' :=
  ⟨h.size, h.os, h.output, h.tape, fun blk o ho hn => h.obj blk o ho fun k hk => hn k (hk.sub hs), fun blk c e fz ho => let ⟨c', h1, h2, h3⟩ := h.cells blk c e fz ho; ⟨c', h1, h2, fun k hk => h3 k fun hk' => hk (hk'.sub hs)⟩, h.loop, h.back⟩

/-- what a part does, in the whole -/
theorem Mv.lift (h : Mv cc ρ S w ρ' S' w') (hr : Rel cc ρ D w) (hs : Sub S D) (hle : ρ.le ρ')
    (hD : ∀ id b L, D'.get id = some b → ρ' id = some L → S'.get id = some b ∨ (D.get id = some b ∧ S.get id = none ∧ ρ id = some L)) : Mv cc ρ D w ρ' D' w' := by
  have out : ∀ id L b, ρ id = some L → D.get id = some b → S.get id = none → ¬ OwnB ρ S L.blk := fun id L b h1 h2 h3 ⟨id', L', b', g1, g2, g3⟩ => by
    by_cases e : id' = id
    · subst e; rw [h3] at g2; cases g2
    · exact hr.apart id' id L' L b' b e g1 h1 (hs _ _ g2) h2 g3
  have outO : ∀ blk k, Owned ρ S blk k → OwnB ρ S blk := fun blk k ⟨id, L, b, h1, h2, h3, _⟩ => ⟨id, L, b, h1, h2, h3⟩
  have fram : ∀ id L b, ρ id = some L → D.get id = some b → S.get id = none → BlkR cc ρ' L b w' := fun id L b h1 h2 h3 => by
    have hb := hr.blk id L b h1 h2
    have hlt := hb.there
    obtain ⟨o, ho⟩ : ∃ o, w.heap[L.blk]? = some o := ⟨_, Array.getElem?_eq_getElem hlt⟩
    exact (hb.mono hle).congr ((h.frm.obj L.blk o ho fun k hk => out id L b h1 h2 h3 (outO _ _ hk)).trans ho.symm)
  refine ⟨⟨fun id L b h1 h2 => ?_, fun id id' L L' b b' hne h1 h1' h2 h2' hblk => ?_⟩, h.frm.sub hs, fun blk o ⟨id, L, b, h1, h2, h3⟩ => ?_, fun blk ⟨id, L, b, h1, h2, h3⟩ => ?_⟩
  · rcases hD id b L h2 h1 with g | ⟨g1, g2, g3⟩
    · exact h.rel.blk id L b h1 g
    · exact fram id L b g3 g1 g2
  · have mix : ∀ id id' L L' b b', ρ' id = some L → S'.get id = some b → ρ id' = some L' → D.get id' = some b' → S.get id' = none → L.blk = L'.blk → False := fun id id' L L' b b' k1 k2 k3 k4 k5 k6 => by
      rcases h.blks L.blk ⟨id, L, b, k1, k2, rfl⟩ with hh | hh
      · rw [k6] at hh; exact out id' L' b' k3 k4 k5 hh
      · have := (hr.blk id' L' b' k3 k4).there; omega
    rcases hD id b L h2 h1 with g | ⟨g1, g2, g3⟩
    · rcases hD id' b' L' h2' h1' with k | ⟨k1, k2, k3⟩
      · exact h.rel.apart id id' L L' b b' hne h1 h1' g k hblk
      · exact mix id id' L L' b b' h1 g k3 k1 k2 hblk
    · rcases hD id' b' L' h2' h1' with k | ⟨k1, k2, k3⟩
      · exact mix id' id L' L b' b h1' k g3 g1 g2 hblk.symm
      · exact hr.apart id id' L L' b b' hne g3 k3 g1 k1 hblk
  · rcases hD id b L h2 h1 with g | ⟨g1, g2, g3⟩
    · rcases h.shr blk o ⟨id, L, b, h1, g, h3⟩ with k | k
      · exact .inl (k.sub hs)
      · exact .inr k
    · exact .inl ⟨id, L, b, g3, g1, h3⟩
  · rcases hD id b L h2 h1 with g | ⟨g1, g2, g3⟩
    · rcases h.blks blk ⟨id, L, b, h1, g, h3⟩ with k | k
      · exact .inl (k.sub hs)
      · exact .inr k
    · exact .inl ⟨id, L, b, g3, g1, h3⟩

/-- another memory with the same blocks for the numbers that are used -/
theorem Mv.turn (h : Mv cc ρ S w ρ' S' w') (hD : ∀ id b L, D'.get id = some b → ρ' id = some L → S'.get id = some b) : Mv cc ρ S w ρ' D' w' :=
  ⟨⟨fun id L b h1 h2 => h.rel.blk id L b h1 (hD _ _ _ h2 h1), fun id id' L L' b b' hne h1 h2 h3 h4 => h.rel.apart id id' L L' b b' hne h1 h2 (hD _ _ _ h3 h1) (hD _ _ _ h4 h2)⟩, h.frm,
    fun blk o ⟨id, L, b, h1, h2, h3⟩ => h.shr blk o ⟨id, L, b, h1, hD _ _ _ h2 h1, h3⟩, fun blk ⟨id, L, b, h1, h2, h3⟩ => h.blks blk ⟨id, L, b, h1, hD _ _ _ h2 h1, h3⟩⟩

theorem MarkOk.mv {lo r : Nat} (h : MarkOk lo ρ S w r) (hs : Mv cc ρ S w ρ' S' w') : MarkOk lo ρ' S' w' r :=
  ⟨h.lo, hs.frm.obj r _ h.at' h.free, fun k hk => by
    rcases hs.shr r k hk with h1 | h1
    · exact h.free k h1
    · have := heap_lt h.at'; omega⟩

theorem DefR.mv {lo : Nat} {l : List (V × List V)} {m : List Deferred} (h : DefR lo ρ S w l m) (hs : Mv cc ρ S w ρ' S' w') (hle : ρ.le ρ') : DefR lo ρ' S' w' l m := by
  induction h with
  | nil => exact .nil
  | call h _ ih => exact .call (h.mono hle) ih
  | mark h hd _ ih => exact .mark (h.mv hs) hd ih
  | pass _ ih => exact .pass ih

theorem DefR.less {lo : Nat} {l : List (V × List V)} {m : List Deferred} (h : DefR lo ρ D w l m) (hs : ∀ blk k, Owned ρ S blk k → Owned ρ D blk k) : DefR lo ρ S w l m := by
  induction h with
  | nil => exact .nil
  | call h _ ih => exact .call h ih
  | mark h hd _ ih => exact .mark ⟨h.lo, h.at', fun k hk => h.free k (hs _ _ hk)⟩ hd ih
  | pass _ ih => exact .pass ih

/-- puts of blocks -/
theorem puts_exist (S : St) (f : Nat → Pa) (g : Nat → Blk) : ∀ (l : List Nat), ∃ S' : St, S'.next = S.next ∧ (∀ id, (∀ j ∈ l, f j ≠ id) → S'.get id = S.get id) ∧
    (∀ id, (∃ j ∈ l, f j = id) → ∃ j ∈ l, f j = id ∧ S'.get id = some (g j))
  | [] => ⟨S, rfl, fun _ _ => rfl, fun id ⟨j, hj, _⟩ => by cases hj⟩
  | j :: l => by
    obtain ⟨S', h1, h2, h3⟩ := puts_exist S f g l
    refine ⟨S'.put (f j) (g j), h1, fun id hid => ?_, fun id hid => ?_⟩
    · rw [St.get_put, if_neg (hid j (by simp))]
      exact h2 id fun j' hj' => hid j' (by simp [hj'])
    · by_cases e : f j = id
      · exact ⟨j, by simp, e, by rw [St.get_put, if_pos e]⟩
      · obtain ⟨j', hj', e'⟩ := hid
        have hj'' : j' ∈ l := by
          rcases List.mem_cons.1 hj' with rfl | h
          · exact absurd e' e
          · exact h
        obtain ⟨j2, k1, k2, k3⟩ := h3 id ⟨j', hj'', e'⟩
        exact ⟨j2, by simp [k1], k2, by rw [St.get_put, if_neg e]; exact k3⟩

end Go.K

namespace Go.K
variable {cf : CF} {l : List KOper} {T : Nat → Pt}

theorem beqEnt_sound {x y : Ent} (h : beqEnt x y = true) : x = y := by
  unfold beqEnt at h
  simp only [band_eq, Bool.and_eq_true] at h
  obtain ⟨h1, h2, h3⟩ := h
  cases x; cases y
  simp only [Ent.mk.injEq]
  exact ⟨V.beq_sound _ _ _ h1, V.beq_sound _ _ _ h2, Nat.eq_of_beq_eq_true h3⟩

theorem Blk.beq_sound {x y : Blk} (h : Blk.beq x y = true) : x = y := by
  cases x with
  | cells n l g =>
    cases y with
    | cells n' m g' =>
      have h : band (Nat.beq g g') (band (Nat.beq n n') (beqList (V.beq 100) l m)) = true := h
      simp only [band_eq, Bool.and_eq_true] at h
      rw [Nat.eq_of_beq_eq_true h.1, Nat.eq_of_beq_eq_true h.2.1, beqList_sound (V.beq 100) l m (fun a _ b => V.beq_sound 100 a b) h.2.2]
    | _ => cases h
  | big n z t g =>
    cases y with
    | big m y u g' =>
      simp only [Blk.beq, band_eq, Bool.and_eq_true] at h
      rw [Nat.eq_of_beq_eq_true h.1, Nat.eq_of_beq_eq_true h.2.1, V.beq_sound _ _ _ h.2.2.1]
      have h4 := h.2.2.2
      cases t with
      | nil =>
        cases u with
        | nil => rfl
        | node _ _ _ => cases h4
      | node _ _ _ => cases h4
    | _ => cases h
  | map es c =>
    cases y with
    | map fs d =>
      have h : band (Nat.beq c d) (beqList beqEnt es fs) = true := h
      simp only [band_eq, Bool.and_eq_true] at h
      rw [Nat.eq_of_beq_eq_true h.1, beqList_sound beqEnt es fs (fun a _ b h => beqEnt_sound h) h.2]
    | _ => cases h
  | mapIter m a s c =>
    cases y with
    | mapIter n a' s' c' =>
      have h : band (beqOptN m n) (band (Nat.beq a a') (band (Nat.beq c c') (beqList Nat.beq s s'))) = true := h
      simp only [band_eq, Bool.and_eq_true] at h
      have hm : m = n := by
        cases m with
        | none =>
          cases n with
          | none => rfl
          | some _ => exact absurd h.1 (by simp [beqOptN])
        | some p =>
          cases n with
          | none => exact absurd h.1 (by simp [beqOptN])
          | some q => rw [(Pa.beq_iff p q).1 h.1]
      rw [hm, Nat.eq_of_beq_eq_true h.2.1, Nat.eq_of_beq_eq_true h.2.2.1, beqList_sound Nat.beq s s' (fun a _ b h => Nat.eq_of_beq_eq_true h) h.2.2.2]
    | _ => cases h
  | loop _ _ _ _ _ _ => cases h
  | bag _ => cases h

theorem within_iff {lo hi m : Nat} : within lo hi m = true ↔ lo ≤ m ∧ m ≤ hi := by
  unfold within
  rw [band_eq, Bool.and_eq_true]
  exact ⟨fun h => ⟨Nat.le_of_ble_eq_true h.1, Nat.le_of_ble_eq_true h.2⟩, fun h => ⟨Nat.ble_eq_true_of_le h.1, Nat.ble_eq_true_of_le h.2⟩⟩

theorem recOk_val {m lo hi : Nat} {p : St} {op : KOp} {env : Env} {v : V} (h : recOk m p (.val lo hi op env v) = true) (h1 : lo ≤ m) (h2 : m ≤ hi) : ∃ S', evalOp op env p = .ok v S' := by
  have h : bIf (within lo hi m) (Res.rec (fun w _ => V.beq 100 w v) (fun _ => false) (evalOp op env p)) true = true := h
  rw [within_iff.2 ⟨h1, h2⟩] at h
  have h : (Res.rec (fun w _ => V.beq 100 w v) (fun _ => false) (evalOp op env p) : Bool) = true := h
  cases he : evalOp op env p with
  | ok u S' => rw [he] at h; exact ⟨S', by rw [V.beq_sound _ _ _ h]⟩
  | err c => rw [he] at h; cases h

theorem recOk_blk {m lo mid hi : Nat} {p : St} {id : Pa} {b : Blk} (h : recOk m p (.blk lo mid hi id (some b)) = true) (h1 : lo ≤ m) (h2 : m ≤ hi) : (m < mid → p.get id = none) ∧ (mid ≤ m → p.get id = some b) := by
  have h : bIf (within lo hi m) (bIf (Nat.blt m mid) (Option.rec true (fun _ => false) (p.get id)) (Option.rec false (fun x => Blk.beq x b) (p.get id))) true = true := h
  rw [within_iff.2 ⟨h1, h2⟩] at h
  have h : bIf (Nat.blt m mid) (Option.rec true (fun _ => false) (p.get id) : Bool) (Option.rec false (fun x => Blk.beq x b) (p.get id)) = true := h
  constructor
  · intro hlt
    rw [show Nat.blt m mid = true from Nat.ble_eq_true_of_le hlt] at h
    cases hg : p.get id with
    | none => rfl
    | some x => rw [hg] at h; cases h
  · intro hle
    rw [show Nat.blt m mid = false from Bool.eq_false_iff.2 fun h' => by have := Nat.le_of_ble_eq_true h'; omega] at h
    cases hg : p.get id with
    | none => rw [hg] at h; cases h
    | some x => rw [hg] at h; rw [Blk.beq_sound (x := x) (y := b) h]

/-! along a run -/
def AlW (l : List KOper) (T : Nat → Pt) (t : Nat) (b : Blk) : Prop :=
  ∃ lo hi g d op, ∃ v : Pa → V, l[t]? = some (.ev (.alloc lo hi) g d op) ∧ wanted (T t).fr.env g = true ∧ (∀ S, evalOp op (T t).fr.env S = .ok (v S.next) (S.new b)) ∧ (T (t + 1)).fr = ⟨putD (T t).fr.env d (v (T t).d.rid), (T t).fr.defers⟩

/-- what a step does that writes nothing -/
theorem TRun.quiet (h : TRun cf l T) {bef ws : List Nat} {j : Nat} {ko : KOper} (hj : l[j]? = some ko) (hk : Kind bef ws j ko) (hw : isWr ko = false) :
    (T (j + 1)).fr.defers = (T j).fr.defers ∧ (T (j + 1)).S.next = (T j).S.next ∧
      ((isAlloc ko = false ∧ (T (j + 1)).S = (T j).S) ∨ (isAlloc ko = true ∧ wanted (T j).fr.env ko.guard = false ∧ (T (j + 1)).S = (T j).S) ∨
        (isAlloc ko = true ∧ ∃ b, AlW l T j b ∧ (T (j + 1)).S = ⟨((⟨(T j).S.heap, (T j).d.rid⟩ : St).new b).heap, (T j).S.next⟩)) := by
  obtain ⟨hs, hd⟩ := h.step j ko hj
  cases hk with
  | pure ht =>
    rename_i g d op
    have hs : K.step cf (.ev .pure g d op) (T j).fr (T j).S = .ok (T (j + 1)).fr (T (j + 1)).S := hs
    rcases step_ev hs with ⟨_, v, hev, hf⟩ | ⟨_, hS, hf⟩
    · have := (pure_ev op _ ht).rd _ _ _ hev
      rw [this, hf]; exact ⟨rfl, rfl, .inl ⟨rfl, rfl⟩⟩
    · rw [hS, hf]; exact ⟨rfl, rfl, .inl ⟨rfl, rfl⟩⟩
  | read ht =>
    rename_i g d op
    have hs : K.step cf (.ev (.read (countL (fun i => hasBit (optD 0 (lget bef j)) i) ws) (countL (fun i => bnot (hasBit (optD 0 (lget bef i)) j)) ws)) g d op) (T j).fr (T j).S = .ok (T (j + 1)).fr (T (j + 1)).S := hs
    rcases step_ev hs with ⟨_, v, hev, hf⟩ | ⟨_, hS, hf⟩
    · have := read_ev op _ (by omega) _ _ _ hev
      rw [this, hf]; exact ⟨rfl, rfl, .inl ⟨rfl, rfl⟩⟩
    · rw [hS, hf]; exact ⟨rfl, rfl, .inl ⟨rfl, rfl⟩⟩
  | alloc ht =>
    rename_i g d op
    have hs : bIf (wanted (T j).fr.env g) (resBind (evalOp op (T j).fr.env ⟨(T j).S.heap, (T j).d.rid⟩) fun v s' => Res.ok (⟨putD (T j).fr.env d v, (T j).fr.defers⟩ : Fr) ⟨s'.heap, (T j).S.next⟩)
      (.ok ⟨putD (T j).fr.env d undefV, (T j).fr.defers⟩ (T j).S) = .ok (T (j + 1)).fr (T (j + 1)).S := hs
    cases hwt : wanted (T j).fr.env g with
    | false =>
      rw [hwt] at hs
      injection hs with h1 h2
      rw [← h1, ← h2]
      exact ⟨rfl, rfl, .inr (.inl ⟨rfl, hwt, rfl⟩)⟩
    | true =>
      rw [hwt] at hs
      obtain ⟨v, S₁, hev, hs⟩ := resBind_ok (show resBind (evalOp op (T j).fr.env ⟨(T j).S.heap, (T j).d.rid⟩) (fun v s' => Res.ok (⟨putD (T j).fr.env d v, (T j).fr.defers⟩ : Fr) ⟨s'.heap, (T j).S.next⟩) = .ok (T (j + 1)).fr (T (j + 1)).S from hs)
      injection hs with h1 h2
      rcases alloc_ev op (T j).fr.env ht with ⟨c, ha⟩ | ⟨u, b, ha⟩
      · rw [ha] at hev; cases hev
      · have hev' := hev
        rw [ha] at hev'
        injection hev' with e1 e2
        refine ⟨by rw [← h1], by rw [← h2], .inr (.inr ⟨rfl, b, ⟨_, _, g, d, op, u, hj, hwt, ha, ?_⟩, ?_⟩)⟩
        · rw [← h1, ← e1]
        · rw [← h2, ← e2]
  | write h1 _ => rw [h1] at hw; cases hw

theorem stepD_m {ko : KOper} {d : DSt} {fr : Fr} {S : St} : (stepD ko d fr S).m = d.m + (if isWr ko = true then 1 else 0) := by
  cases ko with
  | ev c g dd op =>
    cases c with
    | pure => rfl
    | read lo hi =>
      show (bIf (wanted fr.env g) _ d).m = _
      rw [bIf_eq]; split <;> rfl
    | alloc lo hi => rfl
    | write => rfl
  | _ => rfl

theorem stepD_rid {ko : KOper} {d : DSt} {fr : Fr} {S : St} : (stepD ko d fr S).rid = bIf (isAlloc ko) (Pa.succ d.rid) d.rid := by
  cases ko with
  | ev c g dd op =>
    cases c with
    | pure => rfl
    | read lo hi =>
      show (bIf (wanted fr.env g) _ d).rid = _
      rw [bIf_eq]; split <;> rfl
    | alloc lo hi => rfl
    | write => rfl
  | _ => rfl

theorem stepD_recs {ko : KOper} {d : DSt} {fr : Fr} {S : St} : ∀ r ∈ d.recs, r ∈ (stepD ko d fr S).recs := by
  intro r hr
  cases ko with
  | ev c g dd op =>
    cases c with
    | pure => exact hr
    | read lo hi =>
      show r ∈ (bIf (wanted fr.env g) (⟨d.m, d.rid, (Res.rec (fun v _ => .val lo hi op fr.env v :: d.recs) (fun _ => d.recs) (evalOp op fr.env S)), d.ps⟩ : DSt) d).recs
      rw [bIf_eq]
      split
      · cases evalOp op fr.env S with
        | ok v s => exact List.mem_cons_of_mem _ hr
        | err c => exact hr
      · exact hr
    | alloc lo hi =>
      show r ∈ (bIf (wanted fr.env g) (Res.rec (fun _ s' => .blk lo d.m hi d.rid (s'.get d.rid) :: d.recs) (fun _ => d.recs) (evalOp op fr.env ⟨S.heap, d.rid⟩)) d.recs : List Rec)
      rw [bIf_eq]
      split
      · cases evalOp op fr.env ⟨S.heap, d.rid⟩ with
        | ok v s => exact List.mem_cons_of_mem _ hr
        | err c => exact hr
      · exact hr
    | write => exact hr
  | _ => exact hr

theorem stepD_ps {ko : KOper} {d : DSt} {fr : Fr} {S : St} : (stepD ko d fr S).ps = if isWr ko = true then (d.m, S) :: d.ps else d.ps := by
  cases ko with
  | ev c g dd op =>
    cases c with
    | pure => rfl
    | read lo hi =>
      show (bIf (wanted fr.env g) _ d).ps = _
      rw [bIf_eq]; split <;> rfl
    | alloc lo hi => rfl
    | write => rfl
  | _ => rfl

theorem TRun.recs (h : TRun cf l T) : ∀ (i j : Nat), i ≤ j → j ≤ l.length → ∀ r ∈ (T i).d.recs, r ∈ (T j).d.recs := by
  intro i j hij
  induction hij with
  | refl => intro _ r hr; exact hr
  | step hij ih =>
    rename_i j
    intro hj r hr
    obtain ⟨ko, hko⟩ : ∃ ko, l[j]? = some ko := ⟨_, List.getElem?_eq_getElem (by omega)⟩
    rw [(h.step j ko hko).2]
    exact stepD_recs r (ih (by omega) r hr)

theorem TRun.ps (h : TRun cf l T) : ∀ (i j : Nat), i ≤ j → j ≤ l.length → ∀ r ∈ (T i).d.ps, r ∈ (T j).d.ps := by
  intro i j hij
  induction hij with
  | refl => intro _ r hr; exact hr
  | step hij ih =>
    rename_i j
    intro hj r hr
    obtain ⟨ko, hko⟩ : ∃ ko, l[j]? = some ko := ⟨_, List.getElem?_eq_getElem (by omega)⟩
    rw [(h.step j ko hko).2, stepD_ps]
    split
    · exact List.mem_cons_of_mem _ (ih (by omega) r hr)
    · exact ih (by omega) r hr

/-- the points at which what was noted is looked at again -/
theorem TRun.point (h : TRun cf l T) {q : Nat} (hq : q ≤ l.length) (hw : q < l.length → ∃ ko, l[q]? = some ko ∧ isWr ko = true) : ((T q).d.m, (T q).S) ∈ ((T l.length).d.m, (T l.length).S) :: (T l.length).d.ps := by
  by_cases e : q = l.length
  · subst e; simp
  · obtain ⟨ko, h1, h2⟩ := hw (by omega)
    refine List.mem_cons_of_mem _ (h.ps (q + 1) _ (by omega) (Nat.le_refl _) _ ?_)
    rw [(h.step q ko h1).2, stepD_ps, if_pos h2]
    simp

/-- a read at a point -/
theorem TRun.read (h : TRun cf l T) {j q : Nat} (hq : q ≤ l.length) (hqw : q < l.length → ∃ ko, l[q]? = some ko ∧ isWr ko = true) {lo hi : Nat} {g : Option (Pa × Bool)} {d : Option Pa} {op : KOp} (hj : l[j]? = some (.ev (.read lo hi) g d op))
    (ht : op.touches = 1) (hw : wanted (T j).fr.env g = true) (h1 : lo ≤ (T q).d.m) (h2 : (T q).d.m ≤ hi) :
    ∃ v, (T (j + 1)).fr = ⟨putD (T j).fr.env d v, (T j).fr.defers⟩ ∧ evalOp op (T j).fr.env (T q).S = .ok v (T q).S := by
  obtain ⟨hs, hd⟩ := h.step j _ hj
  have hjl : j < l.length := (List.getElem?_eq_some_iff.1 hj).1
  have hs : K.step cf (.ev (.read lo hi) g d op) (T j).fr (T j).S = .ok (T (j + 1)).fr (T (j + 1)).S := hs
  rcases step_ev hs with ⟨_, v, hev, hf⟩ | ⟨hn, _⟩
  · refine ⟨v, hf, ?_⟩
    have hr : Rec.val lo hi op (T j).fr.env v ∈ (T (j + 1)).d.recs := by
      rw [hd]
      show _ ∈ (bIf (wanted (T j).fr.env g) (⟨(T j).d.m, (T j).d.rid, (Res.rec (fun v _ => .val lo hi op (T j).fr.env v :: (T j).d.recs) (fun _ => (T j).d.recs) (evalOp op (T j).fr.env (T j).S)), (T j).d.ps⟩ : DSt) (T j).d).recs
      rw [hw, hev]
      exact List.mem_cons_self
    obtain ⟨S', hS'⟩ := recOk_val (h.chk _ (h.recs _ _ hjl (Nat.le_refl _) _ hr) _ (h.point hq hqw)) h1 h2
    have := read_ev op _ (by omega) _ _ _ hS'
    rw [hS', this]
  · rw [hw] at hn; cases hn

/-- an allocated block at a point -/
theorem TRun.block (h : TRun cf l T) {j q : Nat} (hq : q ≤ l.length) (hqw : q < l.length → ∃ ko, l[q]? = some ko ∧ isWr ko = true) {lo hi : Nat} {g : Option (Pa × Bool)} {d : Option Pa} {op : KOp} {b : Blk} (hj : l[j]? = some (.ev (.alloc lo hi) g d op))
    (hb : AlW l T j b) (h1 : lo ≤ (T q).d.m) (h2 : (T q).d.m ≤ hi) :
    ((T q).d.m < (T j).d.m → (T q).S.get (T j).d.rid = none) ∧ ((T j).d.m ≤ (T q).d.m → (T q).S.get (T j).d.rid = some b) := by
  obtain ⟨lo', hi', g', d', op', v, e1, hw, hev, _⟩ := hb
  rw [hj] at e1; cases e1
  have hjl : j < l.length := (List.getElem?_eq_some_iff.1 hj).1
  obtain ⟨_, hd⟩ := h.step j _ hj
  have hr : Rec.blk lo (T j).d.m hi (T j).d.rid (some b) ∈ (T (j + 1)).d.recs := by
    rw [hd]
    show _ ∈ (bIf (wanted (T j).fr.env g) (Res.rec (fun _ s' => .blk lo (T j).d.m hi (T j).d.rid (s'.get (T j).d.rid) :: (T j).d.recs) (fun _ => (T j).d.recs) (evalOp op (T j).fr.env ⟨(T j).S.heap, (T j).d.rid⟩)) (T j).d.recs : List Rec)
    rw [hw, hev]
    show _ ∈ Rec.blk lo (T j).d.m hi (T j).d.rid (((⟨(T j).S.heap, (T j).d.rid⟩ : St).new b).get (T j).d.rid) :: (T j).d.recs
    rw [show ((⟨(T j).S.heap, (T j).d.rid⟩ : St).new b).get (T j).d.rid = some b from St.get_new_same (⟨(T j).S.heap, (T j).d.rid⟩ : St) b]
    exact List.mem_cons_self
  exact recOk_blk (h.chk _ (h.recs _ _ hjl (Nat.le_refl _) _ hr) _ (h.point hq hqw)) h1 h2

end Go.K

namespace Go.K
variable {cx : Cx} {P : Program} {cf : CF} {fid N : Nat} {ops : Array Oper} {l : List KOper} {ws : List Nat} {T : Nat → Pt}

/-- what is known of a drawn region and its run -/
structure RC (cx : Cx) (cf : CF) (fid N : Nat) (ops : Array Oper) (l : List KOper) (ws : List Nat) (T : Nat → Pt) : Prop where
  len : l.length = ops.size
  run : TRun cf l T
  op : ∀ j, j < ops.size → ∃ o ko c, ops[j]? = some o ∧ l[j]? = some ko ∧ cOper cx fid N ops.toList c o = some ko ∧ Kind (befores ops.toList []) ws j ko ∧ (isWr ko = true ↔ j ∈ ws)
  edges : ∀ j o e, ops[j]? = some o → e ∈ o.after.toList → Region.binds .any e = true → e.on < j
  tmps : ∀ i j a b, i < j → l[i]? = some a → l[j]? = some b → clash a b = true → hasBit (optD 0 (lget (befores ops.toList []) j)) i = true
  chain : chainOk (befores ops.toList []) ws = true
  sorted : ws.Pairwise (· < ·)
  wslt : ∀ i ∈ ws, i < ops.size
  m : ∀ i, i ≤ ops.size → (T i).d.m = below ws i

/-! the temporaries where some of the operations are done -/
theorem envAt_putD (env : Env) (d : Option Pa) (v : V) (t : Pa) : envAt (putD env d v) t = if d = some t then v else envAt env t := by
  cases d with
  | none => rfl
  | some d =>
    show envAt (Tr.set (some v) env d) t = _
    unfold envAt
    rw [Tr.get_set]
    by_cases e : d = t
    · subst e; simp [optD]
    · rw [if_neg e, if_neg (fun h => e (Option.some.inj h))]

noncomputable def dstAt (l : List KOper) (n : Nat) : Option Pa := (l[n]?).bind KOper.dst
noncomputable def valAt (l : List KOper) (T : Nat → Pt) (n : Nat) : V := match dstAt l n with
  | some d => envAt (T (n + 1)).fr.env d
  | none => undefV

noncomputable def ED (l : List KOper) (T : Nat → Pt) (D : Nat → Bool) : Nat → Env
  | 0 => (T 0).fr.env
  | n + 1 => if D n = true then putD (ED l T D n) (dstAt l n) (valAt l T n) else ED l T D n

theorem RC.put (h : RC cx cf fid N ops l ws T) {j : Nat} {ko : KOper} (hj : l[j]? = some ko) : ∃ v, (T (j + 1)).fr.env = putD (T j).fr.env ko.dst v := by
  have hlt : j < ops.size := by rw [← h.len]; exact (List.getElem?_eq_some_iff.1 hj).1
  obtain ⟨o, ko', c, _, h2, _, hk, _⟩ := h.op j hlt
  rw [hj] at h2; cases h2
  cases ha : isAlloc ko with
  | false =>
    have hs := (h.run.step j ko hj).1
    unfold stepR at hs
    rw [ha] at hs
    obtain ⟨v, hv, _⟩ := step_congr (env := (T j).fr.env) (env' := (T j).fr.env) (ds := (T j).fr.defers) (fun _ _ => rfl) (fun _ _ => rfl) (show step cf ko (T j).fr (T j).S = .ok (T (j + 1)).fr (T (j + 1)).S from hs)
    exact ⟨v, hv⟩
  | true =>
    have hw : isWr ko = false := by
      cases ko with
      | ev c g d op => cases c <;> first | rfl | cases ha
      | _ => cases ha
    have hs := (h.run.step j ko hj).1
    rcases (h.run.quiet hj hk hw).2.2 with ⟨h1, _⟩ | ⟨_, hn, _⟩ | ⟨_, b, ⟨lo, hi, g, d, op, v, e1, _, _, hf⟩, _⟩
    · rw [ha] at h1; cases h1
    · unfold stepR at hs
      rw [ha] at hs
      cases ko with
      | ev c g d op =>
        have hs : bIf (wanted (T j).fr.env g) (resBind (evalOp op (T j).fr.env ⟨(T j).S.heap, (T j).d.rid⟩) fun v s' => Res.ok (⟨putD (T j).fr.env d v, (T j).fr.defers⟩ : Fr) ⟨s'.heap, (T j).S.next⟩)
          (.ok ⟨putD (T j).fr.env d undefV, (T j).fr.defers⟩ (T j).S) = .ok (T (j + 1)).fr (T (j + 1)).S := hs
        rw [show wanted (T j).fr.env g = false from hn] at hs
        injection hs with h1 _
        exact ⟨undefV, by rw [← h1]; rfl⟩
      | _ => cases ha
    · rw [hj] at e1; cases e1
      exact ⟨_, by rw [hf]; rfl⟩

theorem dstAt_some {j : Nat} {ko : KOper} (hj : l[j]? = some ko) : dstAt l j = ko.dst := by unfold dstAt; rw [hj]; rfl

theorem putD_val {j : Nat} {ko : KOper} (hj : l[j]? = some ko) {v : V} (hv : (T (j + 1)).fr.env = putD (T j).fr.env ko.dst v) (e : Env) : putD e ko.dst v = putD e (dstAt l j) (valAt l T j) := by
  rw [dstAt_some hj]
  cases hd : ko.dst with
  | none => rfl
  | some d =>
    have : valAt l T j = v := by
      unfold valAt
      rw [dstAt_some hj, hd]
      show envAt (T (j + 1)).fr.env d = v
      rw [hv, envAt_putD, if_pos hd]
    rw [this]

theorem RC.env_succ (h : RC cx cf fid N ops l ws T) {j : Nat} (hj : j < ops.size) : (T (j + 1)).fr.env = putD (T j).fr.env (dstAt l j) (valAt l T j) := by
  obtain ⟨ko, hko⟩ : ∃ ko, l[j]? = some ko := ⟨_, List.getElem?_eq_getElem (by rw [h.len]; exact hj)⟩
  obtain ⟨v, hv⟩ := h.put hko
  rw [← putD_val hko hv, hv]

theorem RC.ED_at (h : RC cx cf fid N ops l ws T) {D : Nat → Bool} {t : Pa} {j : Nat} (hj : j ≤ ops.size) (h1 : ∀ i, i < j → dstAt l i = some t → D i = true) (h2 : ∀ i, j ≤ i → i < ops.size → dstAt l i = some t → D i = false) :
    envAt (ED l T D ops.size) t = envAt (T j).fr.env t := by
  have up : ∀ n, n ≤ j → envAt (ED l T D n) t = envAt (T n).fr.env t := by
    intro n
    induction n with
    | zero => intro _; rfl
    | succ n ih =>
      intro hn
      have ih := ih (by omega)
      rw [h.env_succ (by omega), envAt_putD]
      show envAt (if D n = true then putD (ED l T D n) (dstAt l n) (valAt l T n) else ED l T D n) t = _
      by_cases hd : dstAt l n = some t
      · rw [if_pos (h1 n (by omega) hd), envAt_putD, if_pos hd, if_pos hd]
      · rw [if_neg hd]
        split
        · rw [envAt_putD, if_neg hd]; exact ih
        · exact ih
  have rest : ∀ n, j ≤ n → n ≤ ops.size → envAt (ED l T D n) t = envAt (ED l T D j) t := by
    intro n hn
    induction hn with
    | refl => intro _; rfl
    | step hn ih =>
      rename_i n
      intro hle
      have hjn : j ≤ n := hn
      show envAt (if D n = true then putD (ED l T D n) (dstAt l n) (valAt l T n) else ED l T D n) t = _
      split
      · rename_i hD
        rw [envAt_putD, if_neg]
        · exact ih (by omega)
        · intro hd
          have := h2 n hjn (by omega) hd
          rw [hD] at this; cases this
      · exact ih (by omega)
  rw [rest _ hj (Nat.le_refl _), up j (Nat.le_refl _)]

def addD (D : Nat → Bool) (j : Nat) : Nat → Bool := fun i => if i = j then true else D i

theorem ED_add {D : Nat → Bool} {j : Nat} {k : Nat} (hj : j < k) (hD : D j = false) (h2 : ∀ i, j < i → i < k → dstAt l i = dstAt l j → dstAt l j ≠ none → D i = false) (t : Pa) :
    envAt (ED l T (addD D j) k) t = envAt (putD (ED l T D k) (dstAt l j) (valAt l T j)) t := by
  have lo : ∀ n, n ≤ j → ED l T (addD D j) n = ED l T D n := by
    intro n
    induction n with
    | zero => intro _; rfl
    | succ n ih =>
      intro hn
      show (if addD D j n = true then putD (ED l T (addD D j) n) (dstAt l n) (valAt l T n) else ED l T (addD D j) n) = (if D n = true then putD (ED l T D n) (dstAt l n) (valAt l T n) else ED l T D n)
      rw [ih (by omega)]
      have : addD D j n = D n := by unfold addD; rw [if_neg (by omega)]
      rw [this]
  have hi : ∀ n, j + 1 ≤ n → n ≤ k → ∀ t, envAt (ED l T (addD D j) n) t = envAt (putD (ED l T D n) (dstAt l j) (valAt l T j)) t := by
    intro n hn
    induction hn with
    | refl =>
      intro _ t
      show envAt (if addD D j j = true then putD (ED l T (addD D j) j) (dstAt l j) (valAt l T j) else ED l T (addD D j) j) t = envAt (putD (if D j = true then putD (ED l T D j) (dstAt l j) (valAt l T j) else ED l T D j) (dstAt l j) (valAt l T j)) t
      rw [if_pos (by unfold addD; rw [if_pos rfl]), lo j (Nat.le_refl _), hD]
      rfl
    | step hn ih =>
      rename_i n
      intro hle t
      have hjn : j + 1 ≤ n := hn
      have ih := ih (by omega)
      show envAt (if addD D j n = true then putD (ED l T (addD D j) n) (dstAt l n) (valAt l T n) else ED l T (addD D j) n) t = envAt (putD (if D n = true then putD (ED l T D n) (dstAt l n) (valAt l T n) else ED l T D n) (dstAt l j) (valAt l T j)) t
      have e : addD D j n = D n := by unfold addD; rw [if_neg (by omega)]
      rw [e]
      by_cases hDn : D n = true
      · rw [if_pos hDn, if_pos hDn, envAt_putD, envAt_putD, envAt_putD, ih, envAt_putD]
        by_cases h1 : dstAt l n = some t
        · rw [if_pos h1]
          by_cases h3 : dstAt l j = some t
          · have := h2 n (by omega) (by omega) (by rw [h1, h3]) (by rw [h3]; simp)
            rw [hDn] at this; cases this
          · rw [if_neg h3, if_pos h1]
        · rw [if_neg h1, if_neg h1]
      · rw [if_neg hDn, if_neg hDn]
        exact ih t
  exact hi k hj (Nat.le_refl _) t

/-! numbers kept free -/
theorem skipN_toNat : ∀ (l : List KOper) (p : Pa), (skipN l p).toNat = p.toNat + l.countP isAlloc
  | [], p => by simp [skipN]
  | o :: l, p => by
    have e : skipN (o :: l) p = skipN l (bIf (isAlloc o) (Pa.succ p) p) := rfl
    rw [e, skipN_toNat l, List.countP_cons, bIf_eq]
    split
    · rw [Pa.toNat_succ]; omega
    · rfl

theorem RC.rid (h : RC cx cf fid N ops l ws T) : ∀ j, j ≤ ops.size → (T j).d.rid.toNat = (T 0).d.rid.toNat + (l.take j).countP isAlloc := by
  intro j
  induction j with
  | zero => intro _; simp
  | succ j ih =>
    intro hj
    obtain ⟨ko, hko⟩ : ∃ ko, l[j]? = some ko := ⟨_, List.getElem?_eq_getElem (by rw [h.len]; exact hj)⟩
    rw [(h.run.step j ko hko).2, stepD_rid, List.take_add_one, hko, List.countP_append, bIf_eq]
    have ih := ih (by omega)
    split
    · rename_i ha
      rw [Pa.toNat_succ, ih]; simp [ha]; omega
    · rename_i ha
      rw [ih]; simp [ha]

theorem RC.rid_lt (h : RC cx cf fid N ops l ws T) {i j : Nat} {ko : KOper} (hi : l[i]? = some ko) (ha : isAlloc ko = true) (hij : i < j) (hj : j ≤ ops.size) : (T i).d.rid.toNat < (T j).d.rid.toNat := by
  rw [h.rid i (by omega), h.rid j hj]
  have h1 : (l.take (i + 1)).countP isAlloc = (l.take i).countP isAlloc + 1 := by
    rw [List.take_add_one, hi, List.countP_append]; simp [ha]
  have h2 : (l.take (i + 1)).countP isAlloc ≤ (l.take j).countP isAlloc := by
    have : l.take (i + 1) = (l.take j).take (i + 1) := by rw [List.take_take]; congr 1; omega
    rw [this]
    exact (List.take_sublist _ _).countP_le
  omega

theorem AlW.alloc {j : Nat} {b : Blk} (h : AlW l T j b) : ∃ ko, l[j]? = some ko ∧ isAlloc ko = true := by
  obtain ⟨lo, hi, g, d, op, v, e, _⟩ := h
  exact ⟨_, e, rfl⟩

theorem AlW.lt {j : Nat} {b : Blk} (h : AlW l T j b) : j < l.length := by
  obtain ⟨ko, e, _⟩ := h.alloc
  exact (List.getElem?_eq_some_iff.1 e).1

theorem AlW.inj {j : Nat} {b b' : Blk} (h : AlW l T j b) (h' : AlW l T j b') : b = b' := by
  obtain ⟨lo, hi, g, d, op, v, e, _, h1, _⟩ := h
  obtain ⟨lo', hi', g', d', op', v', e', _, h1', _⟩ := h'
  rw [e] at e'; cases e'
  have h2 := (h1 ⟨.nil, .z⟩).symm.trans (h1' ⟨.nil, .z⟩)
  injection h2 with _ h3
  have g1 := St.get_new_same ⟨.nil, .z⟩ b
  rw [h3, St.get_new_same ⟨.nil, .z⟩ b'] at g1
  exact (Option.some.inj g1).symm

theorem RC.rid_inj (h : RC cx cf fid N ops l ws T) {i j : Nat} {b b' : Blk} (hi : AlW l T i b) (hj : AlW l T j b') (e : (T i).d.rid = (T j).d.rid) : i = j := by
  obtain ⟨ki, e1, a1⟩ := hi.alloc
  obtain ⟨kj, e2, a2⟩ := hj.alloc
  have l1 := hi.lt; have l2 := hj.lt
  rw [h.len] at l1 l2
  rcases Nat.lt_trichotomy i j with hlt | rfl | hlt
  · have := h.rid_lt e1 a1 hlt (by omega); rw [e] at this; omega
  · rfl
  · have := h.rid_lt e2 a2 hlt (by omega); rw [e] at this; omega

/-! between two writes -/
theorem RC.quietAt (h : RC cx cf fid N ops l ws T) {j : Nat} (hj : j < ops.size) (hw : j ∉ ws) :
    (T (j + 1)).fr.defers = (T j).fr.defers ∧ (T (j + 1)).S.next = (T j).S.next ∧
      ((∀ id, (T (j + 1)).S.get id = (T j).S.get id) ∨ ∃ b, AlW l T j b ∧ ∀ id, (T (j + 1)).S.get id = if (T j).d.rid = id then some b else (T j).S.get id) ∧ (∀ b, AlW l T j b → (T (j + 1)).S.get (T j).d.rid = some b) := by
  obtain ⟨o, ko, c, h1, h2, h3, hk, h5⟩ := h.op j hj
  have hw' : isWr ko = false := by
    cases hh : isWr ko with
    | false => rfl
    | true => exact absurd (h5.1 hh) hw
  obtain ⟨q1, q2, q3⟩ := h.run.quiet h2 hk hw'
  refine ⟨q1, q2, ?_, fun b hb => ?_⟩
  · rcases q3 with ⟨_, e⟩ | ⟨_, _, e⟩ | ⟨_, b, hb, e⟩
    · exact .inl fun id => by rw [e]
    · exact .inl fun id => by rw [e]
    · refine .inr ⟨b, hb, fun id => ?_⟩
      rw [e]
      show Tr.get (Tr.set (some b) (T j).S.heap (T j).d.rid) id = _
      rw [Tr.get_set]; rfl
  · rcases q3 with ⟨ha, e⟩ | ⟨_, hn, e⟩ | ⟨_, b', hb', e⟩
    · obtain ⟨ko', e1, a1⟩ := hb.alloc
      rw [h2] at e1; cases e1
      rw [ha] at a1; cases a1
    · obtain ⟨lo, hi, g, d, op, v, e1, hwt, _⟩ := hb
      rw [h2] at e1; cases e1
      rw [show wanted (T j).fr.env g = false from hn] at hwt; cases hwt
    · rw [hb'.inj hb] at e
      rw [e]
      exact Tr.get_set_same _ _ _

theorem RC.between (h : RC cx cf fid N ops l ws T) {i : Nat} : ∀ (j : Nat), i ≤ j → j ≤ ops.size → (∀ t, i ≤ t → t < j → t ∉ ws) →
    (T j).fr.defers = (T i).fr.defers ∧ (T j).S.next = (T i).S.next ∧ (∀ id, (∀ t b, i ≤ t → t < j → AlW l T t b → (T t).d.rid ≠ id) → (T j).S.get id = (T i).S.get id) ∧
      (∀ t b, i ≤ t → t < j → AlW l T t b → (T j).S.get (T t).d.rid = some b) := by
  intro j hij
  induction hij with
  | refl => intro _ _; exact ⟨rfl, rfl, fun _ _ => rfl, fun t b h1 h2 => by omega⟩
  | step hij ih =>
    rename_i j
    intro hj hno
    have hij : i ≤ j := hij
    obtain ⟨h1, h2, h3, h4⟩ := ih (by omega) fun t ht ht' => hno t ht (by omega)
    obtain ⟨g1, g2, g3, g4⟩ := h.quietAt (j := j) (by omega) (hno j hij (by omega))
    refine ⟨g1.trans h1, g2.trans h2, fun id hid => ?_, fun t b ht ht' hb => ?_⟩
    · have := h3 id fun t b ht ht' => hid t b ht (by omega)
      rcases g3 with g3 | ⟨b, hb, g3⟩
      · rw [g3, this]
      · rw [g3, if_neg (hid j b hij (by omega) hb), this]
    · by_cases e : t = j
      · subst e; exact g4 b hb
      · have h5 := h4 t b ht (by omega) hb
        rcases g3 with g3 | ⟨b', hb', g3⟩
        · rw [g3, h5]
        · rw [g3, if_neg (fun e' => e (h.rid_inj hb' hb e').symm), h5]

end Go.K

namespace Go.K
variable {cx : Cx} {P : Program} {cf : CF} {fid N : Nat} {ops : Array Oper} {l : List KOper} {ws : List Nat} {T : Nat → Pt} {cc : CC} {ρ0 ρ : Rho} {S0 SD : St} {w0 w : World}

/-- where an order stands: which operations are done -/
structure Inv (cc : CC) (N : Nat) (ops : Array Oper) (l : List KOper) (ws : List Nat) (T : Nat → Pt) (lo : Nat) (ρ0 : Rho) (S0 : St) (w0 : World) (D : Nat → Bool) (a : Act) (w : World) (q : Nat) (ρ : Rho) (SD : St) : Prop where
  hq : q ≤ ops.size
  hqw : q < ops.size → q ∈ ws
  hD : ∀ i ∈ ws, (D i = true ↔ i < q)
  size : a.tmps.size = N
  env : EnvR ρ (ED l T D ops.size) a.tmps
  mv : Mv cc ρ0 S0 w0 ρ SD w
  nx : SD.next = (T q).S.next
  nx0 : (T 0).S.next.toNat ≤ (T q).S.next.toNat
  ext : ∀ id, (id.toNat < S0.next.toNat ∨ (T q).S.next.toNat ≤ id.toNat) → ρ id = ρ0 id
  sub : Sub (T q).S SD
  sup : ∀ id b, SD.get id = some b → (T q).S.get id = some b ∨ ∃ j, D j = true ∧ q < j ∧ AlW l T j b ∧ (T j).d.rid = id
  early : ∀ j b, D j = true → q < j → AlW l T j b → SD.get (T j).d.rid = some b
  free : ∀ j b, D j = false → AlW l T j b → ρ (T j).d.rid = none
  dfs : DefR lo ρ SD w (T q).fr.defers a.defers

/-- a region's start -/
structure St0 (l : List KOper) (T : Nat → Pt) (ρ0 : Rho) (S0 : St) : Prop where
  rid : (T 0).d.rid = S0.next
  S : (T 0).S = ⟨S0.heap, skipN l S0.next⟩
  top : Top S0 ρ0

theorem RC.rid_in (h : RC cx cf fid N ops l ws T) (h0 : St0 l T ρ0 S0) {j : Nat} {b : Blk} (hb : AlW l T j b) : S0.next.toNat ≤ (T j).d.rid.toNat ∧ (T j).d.rid.toNat < (T 0).S.next.toNat := by
  have hj := hb.lt
  obtain ⟨ko, e1, a1⟩ := hb.alloc
  have hlt := h.rid_lt e1 a1 (j := ops.size) (by rw [← h.len]; exact hj) (Nat.le_refl _)
  have h1 := h.rid j (by rw [← h.len]; omega)
  have h2 := h.rid ops.size (Nat.le_refl _)
  rw [h0.rid] at h1 h2
  have h3 : (T 0).S.next.toNat = S0.next.toNat + l.countP isAlloc := by rw [h0.S]; exact skipN_toNat l S0.next
  rw [← h.len, List.take_length] at h2
  rw [← h.len] at hlt
  omega

theorem DefR.any {cc : CC} {ρ : Rho} {S D : St} {w : World} {lo : Nat} {dl : List (V × List V)} {m : List Deferred} (h : DefR lo ρ S w dl m) (hr : Rel cc ρ D w) : DefR lo ρ D w dl m := by
  induction h with
  | nil => exact .nil
  | call h _ ih => exact .call h ih
  | pass _ ih => exact .pass ih
  | mark h hd _ ih =>
    refine .mark ⟨h.lo, h.at', fun k ⟨id, L, b, h1, h2, h3, _⟩ => ?_⟩ hd ih
    have hb := hr.blk id L b h1 h2
    have hat := h.at'
    rw [← h3] at hat
    cases b with
    | cells n l g => obtain ⟨_, _, _, c, e, h5, _⟩ := hb; rw [hat] at h5; cases h5
    | big n z t g => obtain ⟨_, _, _, c, e, h5, _⟩ := hb; rw [hat] at h5; cases h5
    | map es clock => obtain ⟨es', h5, _⟩ := hb; rw [hat] at h5; cases h5
    | mapIter m since seen stepped => obtain ⟨m', h5, _⟩ := hb; rw [hat] at h5; cases h5
    | bag es => obtain ⟨es', clock, es2, h5, _⟩ := hb; rw [hat] at h5; cases h5
    | loop done tmps params assign body pending => obtain ⟨lp, h5, _⟩ := hb; rw [hat] at h5; cases h5

/-- what an operation that is ready knows of those that are done -/
structure Ready (ops : Array Oper) (l : List KOper) (ws : List Nat) (D : Nat → Bool) (j : Nat) : Prop where
  lt : j < ops.size
  no : D j = false
  done : ∀ i, hasBit (optD 0 (lget (befores ops.toList []) j)) i = true → D i = true
  notD : ∀ i, i < ops.size → hasBit (optD 0 (lget (befores ops.toList []) i)) j = true → D i = false
  chain : ∀ i ∈ ws, j ∈ ws → i < j → D i = true

theorem RC.below_mono (h : RC cx cf fid N ops l ws T) {i j : Nat} (hij : i ≤ j) (hj : j ≤ ops.size) : (T i).d.m ≤ (T j).d.m := by
  rw [h.m i (by omega), h.m j hj]
  exact countL_le ws fun x _ hx => Nat.ble_eq_true_of_le (Nat.le_trans (Nat.le_of_ble_eq_true hx) hij)

theorem below_lt {ws : List Nat} {q j : Nat} (hq : q ∈ ws) (hqj : q < j) : below ws q < below ws j := by
  have key : ∀ (l : List Nat), below l q ≤ below l j ∧ (q ∈ l → below l q < below l j) := by
    intro l
    induction l with
    | nil => exact ⟨Nat.le_refl _, fun h => by cases h⟩
    | cons a l ih =>
      have e : ∀ q, below (a :: l) q = if Nat.blt a q = true then Nat.succ (below l q) else below l q := fun q => by
        show bIf (Nat.blt a q) (Nat.succ (below l q)) (below l q) = _
        rw [bIf_eq]
      have hb : ∀ x y, Nat.blt x y = true ↔ x < y := fun x y => ⟨fun h => Nat.le_of_ble_eq_true h, fun h => Nat.ble_eq_true_of_le h⟩
      rw [e, e]
      simp only [hb]
      refine ⟨?_, fun hm => ?_⟩
      · split <;> split <;> omega
      · rcases List.mem_cons.1 hm with rfl | hm
        · rw [if_neg (by omega), if_pos hqj]; omega
        · have := ih.2 hm
          split <;> split <;> omega
  exact (key ws).2 hq

/-- the bounds of a read or an allocation, where the order stands -/
theorem Ready.bounds (h : RC cx cf fid N ops l ws T) {D : Nat → Bool} {j q : Nat} (hr : Ready ops l ws D j) (hD : ∀ i ∈ ws, (D i = true ↔ i < q)) (hq : q ≤ ops.size) :
    countL (fun i => hasBit (optD 0 (lget (befores ops.toList []) j)) i) ws ≤ (T q).d.m ∧ (T q).d.m ≤ countL (fun i => bnot (hasBit (optD 0 (lget (befores ops.toList []) i)) j)) ws := by
  rw [h.m q hq]
  refine ⟨countL_le ws fun i hi hb => Nat.ble_eq_true_of_le ((hD i hi).1 (hr.done i hb)), countL_le ws fun i hi hb => ?_⟩
  have hdi := (hD i hi).2 (Nat.le_of_ble_eq_true hb)
  cases hx : hasBit (optD 0 (lget (befores ops.toList []) i)) j with
  | false => rfl
  | true => rw [hr.notD i (h.wslt i hi) hx] at hdi; cases hdi

/-- an allocation that was done early or is ready: what stands under its number -/
theorem dst_mem {b : KOper} {d : Pa} {L : List Pa} (hd : b.dst = some d) (h : d ∈ L) : dstIn b.dst L = true := by
  rw [hd]
  show memP d L = true
  induction L with
  | nil => cases h
  | cons q L ih =>
    show bIf (Pa.beq d q) true (memP d L) = true
    rw [bIf_eq]
    split
    · rfl
    · rename_i hne
      rcases List.mem_cons.1 h with rfl | h
      · exact absurd ((Pa.beq_iff d d).2 rfl) hne
      · exact ih h

theorem clash_of {a b : KOper} {d : Pa} (h : (a.dst = some d ∧ (b.dst = some d ∨ d ∈ b.reads)) ∨ (b.dst = some d ∧ d ∈ a.reads)) : clash a b = true := by
  unfold clash
  rw [show ∀ x y, bor x y = (x || y) from fun x y => by cases x <;> rfl, Bool.or_eq_true]
  rcases h with ⟨h1, h2 | h2⟩ | ⟨h1, h2⟩
  · refine .inl (dst_mem h1 ?_)
    rw [h2, lapp_eq]; simp [optP]
  · refine .inl (dst_mem h1 ?_)
    rw [lapp_eq]; simp [h2]
  · exact .inr (dst_mem h1 h2)

theorem mem_reads_guard {ko : KOper} {p : Pa × Bool} (h : ko.guard = some p) : p.1 ∈ ko.reads := by
  unfold KOper.reads
  rw [lapp_eq, h]; simp [guardT]

theorem mem_reads_opd {ko : KOper} {t : Pa} (h : Opd.t t ∈ ko.opds) : t ∈ ko.reads := by
  unfold KOper.reads
  rw [lapp_eq]
  refine List.mem_append_right _ ?_
  generalize ko.opds = L at h
  induction L with
  | nil => cases h
  | cons x L ih =>
    cases x with
    | t i =>
      show t ∈ i :: tempsOf L
      rcases List.mem_cons.1 h with h | h
      · injection h with h; simp [h]
      · exact List.mem_cons_of_mem _ (ih h)
    | c v =>
      show t ∈ tempsOf L
      rcases List.mem_cons.1 h with h | h
      · cases h
      · exact ih h

/-- what a ready operation looks at stands as in the order of the text -/
theorem Ready.agree (h : RC cx cf fid N ops l ws T) {D : Nat → Bool} {j : Nat} (hr : Ready ops l ws D j) {ko : KOper} (hj : l[j]? = some ko) {t : Pa} (ht : t ∈ ko.reads) : envAt (ED l T D ops.size) t = envAt (T j).fr.env t := by
  refine h.ED_at (Nat.le_of_lt hr.lt) (fun i hi hd => ?_) fun i hi hlt hd => ?_
  · obtain ⟨ki, hki⟩ : ∃ ki, l[i]? = some ki := ⟨_, List.getElem?_eq_getElem (by rw [h.len]; exact Nat.lt_trans hi hr.lt)⟩
    rw [dstAt_some hki] at hd
    exact hr.done i (h.tmps i j ki ko hi hki hj (clash_of (.inl ⟨hd, .inr ht⟩)))
  · by_cases e : i = j
    · subst e; exact hr.no
    · obtain ⟨ki, hki⟩ : ∃ ki, l[i]? = some ki := ⟨_, List.getElem?_eq_getElem (by rw [h.len]; exact hlt)⟩
      rw [dstAt_some hki] at hd
      exact hr.notD i hlt (h.tmps j i ko ki (by omega) hj hki (clash_of (.inr ⟨hd, ht⟩)))

theorem Ready.look (h : RC cx cf fid N ops l ws T) {D : Nat → Bool} {j : Nat} (hr : Ready ops l ws D j) {ko : KOper} (hj : l[j]? = some ko) : ∀ x ∈ ko.opds, (T j).fr.env.look x = (ED l T D ops.size).look x := by
  intro x hx
  cases x with
  | t i => exact (hr.agree h hj (mem_reads_opd hx)).symm
  | c v => rfl

theorem Ready.guard (h : RC cx cf fid N ops l ws T) {D : Nat → Bool} {j : Nat} (hr : Ready ops l ws D j) {ko : KOper} (hj : l[j]? = some ko) : ∀ p, ko.guard = some p → envAt (T j).fr.env p.1 = envAt (ED l T D ops.size) p.1 :=
  fun _ hp => (hr.agree h hj (mem_reads_guard hp)).symm

theorem Ready.wanted (h : RC cx cf fid N ops l ws T) {D : Nat → Bool} {j : Nat} (hr : Ready ops l ws D j) {ko : KOper} (hj : l[j]? = some ko) : wanted (ED l T D ops.size) ko.guard = wanted (T j).fr.env ko.guard := by
  unfold K.wanted
  cases hk : ko.guard with
  | none => rfl
  | some _ => show isB _ (envAt _ _) = isB _ (envAt _ _); rw [hr.guard h hj _ hk]

/-- the temporaries, with one operation more done -/
theorem Ready.env (h : RC cx cf fid N ops l ws T) {D : Nat → Bool} {j : Nat} (hr : Ready ops l ws D j) {ko : KOper} (hj : l[j]? = some ko) {ρ : Rho} {tmps : Array Value}
    (he : EnvR ρ (putD (ED l T D ops.size) (dstAt l j) (valAt l T j)) tmps) : EnvR ρ (ED l T (addD D j) ops.size) tmps := fun i => by
  rw [ED_add hr.lt hr.no]
  · exact he i
  · intro i hij hlt hd hne
    obtain ⟨ki, hki⟩ : ∃ ki, l[i]? = some ki := ⟨_, List.getElem?_eq_getElem (by rw [h.len]; exact hlt)⟩
    rw [dstAt_some hki, dstAt_some hj] at hd
    rw [dstAt_some hj] at hne
    cases hk : ko.dst with
    | none => exact absurd hk hne
    | some d =>
      rw [hk] at hd
      exact hr.notD i hlt (h.tmps j i ko ki hij hj hki (clash_of (.inl ⟨hk, .inl hd⟩)))

/-- nothing that is done early stands in memory yet -/
theorem Inv.early_none (h : RC cx cf fid N ops l ws T) {lo : Nat} {D : Nat → Bool} {a : Act} {q : Nat} (hI : Inv cc N ops l ws T lo ρ0 S0 w0 D a w q ρ SD) (hcl : ∀ i, D i = true → ∀ i', hasBit (optD 0 (lget (befores ops.toList []) i)) i' = true → D i' = true)
    {j p : Nat} {b : Blk} (hb : AlW l T j b) (hj : D j = true) (hqp : q ≤ p) (hpj : p < j) (hp : p < ops.size → p ∈ ws) : (T p).S.get (T j).d.rid = none := by
  have hjl : j < ops.size := by rw [← h.len]; exact hb.lt
  have hpw := hp (by omega)
  obtain ⟨o, ko, c, h1, h2, h3, hk, h5⟩ := h.op j hjl
  obtain ⟨lo', hi', g, d, op, v, e1, _⟩ := id hb
  rw [h2] at e1; cases e1
  cases hk with
  | alloc ht =>
    have hlt : (T p).d.m < (T j).d.m := by rw [h.m p (by omega), h.m j (by omega)]; exact below_lt hpw hpj
    refine (h.run.block (by rw [h.len]; omega) (fun _ => ?_) h2 hb ?_ ?_).1 hlt
    · obtain ⟨o', ko', c', k1, k2, k3, k4, k5⟩ := h.op p (by omega)
      exact ⟨ko', k2, k5.2 hpw⟩
    · rw [h.m p (by omega)]
      exact countL_le ws fun i hi hbit => Nat.ble_eq_true_of_le (Nat.lt_of_lt_of_le ((hI.hD i hi).1 (hcl j hj i hbit)) hqp)
    · rw [h.m p (by omega)]
      refine countL_le ws fun i hi hbit => ?_
      have hip : i < p := Nat.le_of_ble_eq_true hbit
      cases hx : hasBit (optD 0 (lget (befores ops.toList []) i)) j with
      | false => rfl
      | true => 
        exfalso
        obtain ⟨o', ho', hm⟩ := befores_get ops.toList [] i (by simp) (by simp; omega)
        have hbits : ∀ (i j : Nat), i < ops.size → hasBit (optD 0 (lget (befores ops.toList []) i)) j = true → j < i := by
          intro i
          induction i using Nat.strongRecOn with
          | _ i ih =>
            intro j hi hb
            obtain ⟨o', ho', hm⟩ := befores_get ops.toList [] i (by simp) (by simp; omega)
            rw [lget_eq, hm] at hb
            obtain ⟨e, he, hbi, hh⟩ := mask_bits (show hasBit (mask ((befores ops.toList []).take i) o') j = true from hb)
            simp only [List.length_nil, Nat.sub_zero, Array.getElem?_toList] at ho'
            have hon := h.edges i o' e ho' he hbi
            rcases hh with rfl | hh
            · exact hon
            · rw [lget_eq, List.getElem?_take, if_pos hon] at hh
              have := ih e.on hon j (by omega) (by rw [lget_eq]; exact hh)
              omega
        have := hbits i j (by omega) hx
        omega
  | write h1' h2' => cases h2'

end Go.K

namespace Go.K
variable {cx : Cx} {P : Program} {cf : CF} {fid N : Nat} {ops : Array Oper} {l : List KOper} {ws : List Nat} {T : Nat → Pt} {cc : CC} {ρ0 ρ : Rho} {S0 SD : St} {w0 w : World}

theorem pa_toNat_ne {p q : Pa} (h : p ≠ q) : p.toNat ≠ q.toNat := fun e => h (Pa.toNat_inj e)

/-- an operation that writes nothing and makes nothing -/
theorem Inv.stay (h : RC cx cf fid N ops l ws T) {lo : Nat} {D : Nat → Bool} {a a' : Act} {w' : World} {ρ' : Rho} {q j : Nat} (hI : Inv cc N ops l ws T lo ρ0 S0 w0 D a w q ρ SD) (hr : Ready ops l ws D j) {ko : KOper} (hj : l[j]? = some ko)
    (hw : j ∉ ws) (ha : ∀ b, ¬ AlW l T j b) (hs : Sim cc ρ (T q).S w ρ' (T q).S w') (hfr : FrR lo N ρ' (T q).S w' ⟨putD (ED l T D ops.size) (dstAt l j) (valAt l T j), (T q).fr.defers⟩ a') :
    Inv cc N ops l ws T lo ρ0 S0 w0 (addD D j) a' w' q ρ' SD := by
  have same : ∀ id, ρ' id = ρ id := fun id => hs.ext id (by omega)
  have hmv : Mv cc ρ SD w ρ' SD w' := hs.mv.lift hI.mv.rel hI.sub (fun id L hL => by rw [same]; exact hL) fun id b L h1 h2 => by
    cases hg : (T q).S.get id with
    | some b2 => have := hI.sub _ _ hg; rw [h1] at this; exact .inl this.symm
    | none => exact .inr ⟨h1, rfl, by rw [← same]; exact h2⟩
  have hne : ∀ {i b}, AlW l T i b → i ≠ j := fun hb e => by subst e; exact ha _ hb
  refine ⟨hI.hq, hI.hqw, fun i hi => ?_, hfr.size, hr.env h hj hfr.env, hI.mv.trans hmv, hI.nx, hI.nx0, fun id hid => (same id).trans (hI.ext id hid), hI.sub, fun id b hb => ?_, fun i b hi hq hb => ?_, fun i b hi hb => ?_, hfr.defs.any hmv.rel⟩
  · unfold addD
    rw [if_neg (fun e => hw (by rw [← e]; exact hi))]
    exact hI.hD i hi
  · rcases hI.sup id b hb with h1 | ⟨i, h1, h2, h3, h4⟩
    · exact .inl h1
    · exact .inr ⟨i, by unfold addD; rw [if_neg (hne h3)]; exact h1, h2, h3, h4⟩
  · unfold addD at hi
    rw [if_neg (hne hb)] at hi
    exact hI.early i b hi hq hb
  · unfold addD at hi
    rw [if_neg (hne hb)] at hi
    rw [same]; exact hI.free i b hi hb

/-- an allocation -/
theorem Inv.alloc (h : RC cx cf fid N ops l ws T) (h0 : St0 l T ρ0 S0) {lo : Nat} {D : Nat → Bool} {a a' : Act} {w' : World} {ρ' : Rho} {q j : Nat} (hI : Inv cc N ops l ws T lo ρ0 S0 w0 D a w q ρ SD) (hr : Ready ops l ws D j) {ko : KOper} (hj : l[j]? = some ko)
    (hw : j ∉ ws) {b : Blk} (hb : AlW l T j b) (hqb : (T q).d.m < (T j).d.m → (T q).S.get (T j).d.rid = none) (hqb' : (T j).d.m ≤ (T q).d.m → (T q).S.get (T j).d.rid = some b)
    (hs : Sim cc ρ ⟨(T q).S.heap, (T j).d.rid⟩ w ρ' ((⟨(T q).S.heap, (T j).d.rid⟩ : St).new b) w') (hfr : FrR lo N ρ' ((⟨(T q).S.heap, (T j).d.rid⟩ : St).new b) w' ⟨putD (ED l T D ops.size) (dstAt l j) (valAt l T j), (T q).fr.defers⟩ a') :
    Inv cc N ops l ws T lo ρ0 S0 w0 (addD D j) a' w' q ρ' (SD.put (T j).d.rid b) := by
  have hrin := h.rid_in h0 hb
  have hfree := hI.free j b hr.no hb
  have same : ∀ id, id ≠ (T j).d.rid → ρ' id = ρ id := fun id hid => hs.ext id (by
    rw [St.next_new, Pa.toNat_succ]
    have := pa_toNat_ne hid
    show id.toNat < (T j).d.rid.toNat ∨ (T j).d.rid.toNat + 1 ≤ id.toNat
    omega)
  have hle : ρ.le ρ' := fun id L hL => by
    rw [same]
    · exact hL
    · intro e; rw [e, hfree] at hL; cases hL
  have getP : ∀ id, (⟨(T q).S.heap, (T j).d.rid⟩ : St).get id = (T q).S.get id := fun _ => rfl
  have getD : ∀ id, (SD.put (T j).d.rid b).get id = if (T j).d.rid = id then some b else SD.get id := fun id => St.get_put _ _ _ _
  have hqj : q ≠ j := fun e => by
    subst e
    exact hw (hI.hqw hr.lt)
  have hmv : Mv cc ρ SD w ρ' (SD.put (T j).d.rid b) w' := hs.mv.lift hI.mv.rel (fun id b h => hI.sub _ _ h) hle fun id b1 L h1 h2 => by
    rw [getD] at h1
    split at h1
    · rename_i e
      cases h1
      subst e
      exact .inl (St.get_new_same _ _)
    · rename_i e
      rw [getP]
      cases hg : (T q).S.get id with
      | some b2 =>
        have := hI.sub _ _ hg
        rw [h1] at this
        refine .inl ?_
        rw [St.get_new_ne _ _ (show id ≠ (T j).d.rid from Ne.symm e), getP, hg]; exact this.symm
      | none => exact .inr ⟨h1, rfl, by rw [← same id (Ne.symm e)]; exact h2⟩
  refine ⟨hI.hq, hI.hqw, fun i hi => ?_, hfr.size, hr.env h hj hfr.env, hI.mv.trans hmv, hI.nx, hI.nx0, fun id hid => ?_, fun id b1 h1 => ?_, fun id b1 h1 => ?_, fun i b1 hi hq h1 => ?_, fun i b1 hi h1 => ?_, hfr.defs.any hmv.rel⟩
  · unfold addD
    rw [if_neg (fun e => hw (by rw [← e]; exact hi))]
    exact hI.hD i hi
  · rw [same id]
    · exact hI.ext id hid
    · intro e
      subst e
      have := hI.nx0
      omega
  · rw [getD]
    split
    · rename_i e
      subst e
      by_cases hm : (T q).d.m < (T j).d.m
      · rw [hqb hm] at h1; cases h1
      · rw [hqb' (by omega)] at h1; exact h1
    · exact hI.sub id b1 h1
  · rw [getD] at h1
    split at h1
    · rename_i e
      cases h1
      by_cases hm : q < j
      · exact .inr ⟨j, by unfold addD; rw [if_pos rfl], hm, hb, e⟩
      · subst e
        exact .inl (hqb' (h.below_mono (by omega) hI.hq))
    · rcases hI.sup id b1 h1 with h2 | ⟨i, h2, h3, h4, h5⟩
      · exact .inl h2
      · refine .inr ⟨i, ?_, h3, h4, h5⟩
        unfold addD
        split
        · rfl
        · exact h2
  · rw [getD]
    split
    · rename_i e
      have := h.rid_inj hb h1 e
      subst this
      rw [hb.inj h1]
    · rename_i e
      refine hI.early i b1 ?_ hq h1
      unfold addD at hi
      rw [if_neg (fun e' => e (by rw [e']))] at hi
      exact hi
  · unfold addD at hi
    split at hi
    · cases hi
    · rename_i e
      rw [same _ fun e' => e (h.rid_inj h1 hb e')]
      exact hI.free i b1 hi h1

theorem next_write {ws : List Nat} {k : Nat} : ∀ (n i : Nat), k - i = n → i ≤ k → ∃ q, i ≤ q ∧ q ≤ k ∧ (q < k → q ∈ ws) ∧ ∀ t, i ≤ t → t < q → t ∉ ws
  | 0, i, h, hi => ⟨k, hi, Nat.le_refl _, fun h => by omega, fun t h1 h2 => by omega⟩
  | n + 1, i, h, hi => by
    by_cases hw : i ∈ ws
    · exact ⟨i, Nat.le_refl _, hi, fun _ => hw, fun t h1 h2 => by omega⟩
    · obtain ⟨q, h1, h2, h3, h4⟩ := next_write (ws := ws) (k := k) n (i + 1) (by omega) (by omega)
      refine ⟨q, by omega, h2, h3, fun t ht ht' => ?_⟩
      by_cases e : t = i
      · subst e; exact hw
      · exact h4 t (by omega) ht'

/-- a write -/
theorem Inv.write (h : RC cx cf fid N ops l ws T) (h0 : St0 l T ρ0 S0) {lo : Nat} {D : Nat → Bool} {a a' : Act} {w' : World} {ρ' : Rho} {j : Nat} (hI : Inv cc N ops l ws T lo ρ0 S0 w0 D a w j ρ SD) (hr : Ready ops l ws D j) {ko : KOper} (hj : l[j]? = some ko)
    (hcl : ∀ i, D i = true → ∀ i', hasBit (optD 0 (lget (befores ops.toList []) i)) i' = true → D i' = true)
    (hw : j ∈ ws) (hs : Sim cc ρ (T j).S w ρ' (T (j + 1)).S w') (hle : ρ.le ρ') (hfr : FrR lo N ρ' (T (j + 1)).S w' ⟨putD (ED l T D ops.size) (dstAt l j) (valAt l T j), (T (j + 1)).fr.defers⟩ a') :
    ∃ q SD', Inv cc N ops l ws T lo ρ0 S0 w0 (addD D j) a' w' q ρ' SD' := by
  obtain ⟨q, q1, q2, q3, q4⟩ := next_write (ws := ws) (k := ops.size) _ (j + 1) rfl hr.lt
  obtain ⟨g1, g2, g3, g4⟩ := h.between q q1 q2 q4
  have hnal : ∀ {i b}, AlW l T i b → i ≠ j := fun {i b} hb e => by
    subst e
    obtain ⟨o, ko', c, k1, k2, k3, k4, k5⟩ := h.op i hr.lt
    obtain ⟨lo, hi, g, d, op, v, e1, _⟩ := hb
    rw [e1] at k2; cases k2
    have := k5.2 hw
    cases this
  have hEx : ∀ t, ∃ b, (∃ b, AlW l T t b) → AlW l T t b := fun t => by
    by_cases hx : ∃ b, AlW l T t b
    · obtain ⟨b, hb⟩ := hx; exact ⟨b, fun _ => hb⟩
    · exact ⟨.map [] 0, fun hx' => absurd hx' hx⟩
  obtain ⟨gb, hgb⟩ := Classical.axiomOfChoice hEx
  have hgb' : ∀ {t b}, AlW l T t b → gb t = b := fun {t b} hb => (hgb t ⟨b, hb⟩).inj hb
  open Classical in
  obtain ⟨SD', s1, s2, s3⟩ := puts_exist (T q).S (fun t => (T t).d.rid) gb ((List.range ops.size).filter fun t => decide (D t = true ∧ q < t ∧ ∃ b, AlW l T t b))
  have hmem : ∀ t, t ∈ ((List.range ops.size).filter fun t => decide (D t = true ∧ q < t ∧ ∃ b, AlW l T t b)) ↔ (t < ops.size ∧ D t = true ∧ q < t ∧ ∃ b, AlW l T t b) := fun t => by
    simp
  have hearly : ∀ {t b}, D t = true → q < t → AlW l T t b → SD'.get (T t).d.rid = some b := fun {t b} h1 h2 h3 => by
    obtain ⟨t', k1, k2, k3⟩ := s3 (T t).d.rid ⟨t, (hmem t).2 ⟨by rw [← h.len]; exact h3.lt, h1, h2, b, h3⟩, rfl⟩
    obtain ⟨_, _, _, b', hb'⟩ := (hmem t').1 k1
    have := h.rid_inj hb' h3 k2
    subst this
    rw [k3, hgb' h3]
  have hsup : ∀ id b, SD'.get id = some b → (∃ t, D t = true ∧ q < t ∧ AlW l T t b ∧ (T t).d.rid = id) ∨ ((∀ t b, D t = true → q < t → AlW l T t b → (T t).d.rid ≠ id) ∧ (T q).S.get id = some b) := fun id b hb => by
    by_cases hx : ∃ t ∈ ((List.range ops.size).filter fun t => decide (D t = true ∧ q < t ∧ ∃ b, AlW l T t b)), (T t).d.rid = id
    · obtain ⟨t, k1, k2, k3⟩ := s3 id hx
      obtain ⟨_, e1, e2, b', hb'⟩ := (hmem t).1 k1
      rw [hb] at k3
      have : b = b' := by rw [Option.some.inj k3, hgb' hb']
      subst this
      exact .inl ⟨t, e1, e2, hb', k2⟩
    · refine .inr ⟨fun t b' e1 e2 hb' e => hx ⟨t, (hmem t).2 ⟨by rw [← h.len]; exact hb'.lt, e1, e2, b', hb'⟩, e⟩, ?_⟩
      rw [← s2 id fun t ht e => hx ⟨t, ht, e⟩]; exact hb
  have hnx : (T j).S.next.toNat ≤ (T (j + 1)).S.next.toNat := hs.next
  have hnx0 := hI.nx0
  have hrid : ∀ {t b}, AlW l T t b → ρ' (T t).d.rid = ρ (T t).d.rid := fun {t b} hb => hs.ext _ (.inl (Nat.lt_of_lt_of_le (h.rid_in h0 hb).2 hnx0))
  have hmv : Mv cc ρ SD w ρ' SD' w' := hs.mv.lift hI.mv.rel hI.sub hle fun id b L h1 h2 => by
    rcases hsup id b h1 with ⟨t, e1, e2, e3, e4⟩ | ⟨hno, h3⟩
    · subst e4
      refine .inr ⟨hI.early t b e1 (by omega) e3, hI.early_none h hcl e3 e1 (Nat.le_refl _) (by omega) (fun _ => hw), ?_⟩
      rw [← hrid e3]; exact h2
    · by_cases hx : ∃ t b', j + 1 ≤ t ∧ t < q ∧ AlW l T t b' ∧ (T t).d.rid = id
      · obtain ⟨t, b', e1, e2, e3, e4⟩ := hx
        subst e4
        have hb' := g4 t b' e1 e2 e3
        rw [hb'] at h3
        cases h3
        rw [hrid e3] at h2
        cases hDt : D t with
        | false => rw [hI.free t b hDt e3] at h2; cases h2
        | true =>
          exact .inr ⟨hI.early t b hDt (by omega) e3, hI.early_none h hcl e3 hDt (Nat.le_refl _) (by omega) (fun _ => hw), h2⟩
      · rw [g3 id fun t b' e1 e2 e3 e4 => hx ⟨t, b', e1, e2, e3, e4⟩] at h3
        exact .inl h3
  refine ⟨q, SD', q2, q3, fun i hi => ?_, hfr.size, hr.env h hj hfr.env, hI.mv.trans hmv, s1, by rw [g2]; omega, fun id hid => ?_, fun id b hb => ?_, fun id b hb => ?_, fun i b hi hq hb => ?_, fun i b hi hb => ?_, ?_⟩
  · unfold addD
    by_cases e : i = j
    · subst e; rw [if_pos rfl]; exact ⟨fun _ => by omega, fun _ => rfl⟩
    · rw [if_neg e, hI.hD i hi]
      constructor
      · intro hlt; omega
      · intro hlt
        by_cases hij : i < j
        · exact hij
        · exact absurd hi (q4 i (by omega) hlt)
  · rw [g2] at hid
    have h00 : S0.next.toNat ≤ (T 0).S.next.toNat := by rw [h0.S]; show _ ≤ (skipN l S0.next).toNat; rw [skipN_toNat]; omega
    rw [hs.ext id (by omega)]
    exact hI.ext id (by omega)
  · by_cases hx : ∃ t b', D t = true ∧ q < t ∧ AlW l T t b' ∧ (T t).d.rid = id
    · obtain ⟨t, b', e1, e2, e3, e4⟩ := hx
      subst e4
      rw [hI.early_none h hcl e3 e1 (by omega) e2 q3] at hb; cases hb
    · rw [s2 id fun t ht e => ?_]
      · exact hb
      · obtain ⟨_, e1, e2, b', hb'⟩ := (hmem t).1 ht
        exact hx ⟨t, b', e1, e2, hb', e⟩
  · rcases hsup id b hb with ⟨t, e1, e2, e3, e4⟩ | ⟨_, h3⟩
    · refine .inr ⟨t, ?_, e2, e3, e4⟩
      unfold addD
      rw [if_neg (hnal e3)]; exact e1
    · exact .inl h3
  · unfold addD at hi
    rw [if_neg (hnal hb)] at hi
    exact hearly hi hq hb
  · unfold addD at hi
    rw [if_neg (hnal hb)] at hi
    rw [hrid hb]; exact hI.free i b hi hb
  · rw [g1]; exact hfr.defs.any hmv.rel

end Go.K
