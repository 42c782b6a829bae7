/- Runs in parts, and calls whose results are known. The conditions of each theorem stand with it. -/
import Derived.Test.YtkcjeopdenhafaaGreatKe
namespace Go.K
variable {P : Program} {cx : Cx} {ρ ρ' : Rho} {S S' S₁ : St} {w w' : World}

/-! a run in parts: the statements of a body are cut; memory and temporaries are written down between -/
noncomputable def execHead (cf : CF) (lf : Nat) : Nat → KCode → Fr → St → Res Fr
  | 0, _, fr, s => .ok fr s
  | i + 1, .seq a b, fr, s => resBind (exec cf lf a fr s) fun p s => Exit.rec (execHead cf lf i b p.2 s) (.err 80) (fun _ => .err 80) p.1
  | _ + 1, _, _, _ => .err 81
def tailK : Nat → KCode → KCode
  | 0, k => k
  | i + 1, .seq _ b => tailK i b
  | _ + 1, _ => .skip
def tailC : Nat → Code → Code
  | 0, k => k
  | i + 1, .seq _ b => tailC i b
  | _ + 1, _ => .skip
def canCut : Nat → Code → Bool
  | 0, _ => true
  | i + 1, .seq _ b => canCut i b
  | _ + 1, _ => false

theorem tail_code {fid N : Nat} : ∀ (i : Nat) (c : Code) (k : KCode), canCut i c = true → cCode cx fid N c = some k → cCode cx fid N (tailC i c) = some (tailK i k)
  | 0, c, k, _, h => by cases c <;> exact h
  | i + 1, .seq c d, k, hc, h => by
    obtain ⟨kc, h1, h⟩ := obind_some (show obind (cCode cx fid N c) (fun a => obind (cCode cx fid N d) fun b => some (KCode.seq a b)) = some k from h)
    obtain ⟨kd, h2, h⟩ := obind_some h
    cases h
    exact tail_code i d kd hc h2
  | i + 1, .skip, _, hc, _ => by cases hc
  | i + 1, .region _ _ _, _, hc, _ => by cases hc
  | i + 1, .cond _ _ _, _, hc, _ => by cases hc
  | i + 1, .block _ _, _, hc, _ => by cases hc
  | i + 1, .loop _, _, hc, _ => by cases hc
  | i + 1, .rangeFunc _ _ _ _, _, hc, _ => by cases hc
  | i + 1, .exit _, _, hc, _ => by cases hc
  | i + 1, .ret, _, hc, _ => by cases hc
  | i + 1, .scope _, _, hc, _ => by cases hc
  | i + 1, .label _, _, hc, _ => by cases hc
  | i + 1, .goto _, _, hc, _ => by cases hc
  | i + 1, .refuse _, _, hc, _ => by cases hc

theorem head_ok (hcx : CxI P cx) (hm : P.follows .mixedOrders = true) {cf : CF} (hcf : CFOk (ccOf cx) P cf) {fid N n lf lo : Nat} {Q : Go.Exit → Act → World → Prop} : ∀ (i : Nat) (c : Code) (k : KCode), canCut i c = true → cCode cx fid N c = some k →
    ∀ (fr : Fr) (S : St) (fr₁ : Fr) (S₁ : St) (ρ : Rho) (a : Act) (w : World), execHead cf lf i k fr S = .ok fr₁ S₁ → lo ≤ w.heap.size → Rel (ccOf cx) ρ S w → FrR lo N ρ S w fr a → Top S ρ →
      (∀ ρ₁ a₁ w₁, Sim (ccOf cx) ρ S w ρ₁ S₁ w₁ → FrR lo N ρ₁ S₁ w₁ fr₁ a₁ → Top S₁ ρ₁ → (tailC i c).wpIn Fence.wide n P Q a₁ w₁) → c.wpIn Fence.wide n P Q a w
  | 0, c, k, _, _, fr, S, fr₁, S₁, ρ, a, w, h, _, hr, hfr, ht, hQ => by
    have h : Res.ok fr S = .ok fr₁ S₁ := by cases k <;> exact h
    cases h
    have := hQ ρ a w (Sim.refl hr) hfr ht
    cases c <;> exact this
  | i + 1, .seq c d, k, hc, hk, fr, S, fr₁, S₁, ρ, a, w, h, hlo, hr, hfr, ht, hQ => by
    obtain ⟨kc, h1, hk⟩ := obind_some (show obind (cCode cx fid N c) (fun a => obind (cCode cx fid N d) fun b => some (KCode.seq a b)) = some k from hk)
    obtain ⟨kd, h2, hk⟩ := obind_some hk
    cases hk
    obtain ⟨p, S₂, e1, e2⟩ := resBind_ok (show resBind (exec cf lf kc fr S) (fun p s => Exit.rec (execHead cf lf i kd p.2 s) (.err 80) (fun _ => .err 80) p.1) = .ok fr₁ S₁ from h)
    refine wpIn_seq (wpIn_mono (code_ok hcx hcf (drawn_ok hcx hm hcf) fid N c kc h1 Fence.wide n lf lo fr S p S₂ ρ a w (.inl rfl) (.inl rfl) (fun l hl => by cases hl) hlo e1 hr hfr ht) fun e a' w' ⟨ρ₂, he, hs, hfr₂, ht₂⟩ => ?_)
    obtain ⟨x, f⟩ := p
    cases x with
    | normal =>
      subst he
      exact head_ok hcx hm hcf i d kd hc h2 f S₂ fr₁ S₁ ρ₂ a' w' e2 (Nat.le_trans hlo hs.frm.size) hs.rel hfr₂ ht₂ fun ρ₃ a₃ w₃ hs₃ hfr₃ ht₃ => hQ ρ₃ a₃ w₃ (hs.trans hs₃) hfr₃ ht₃
    | ret => cases e2
    | exit j => cases e2
  | i + 1, .skip, _, hc, _, _, _, _, _, _, _, _, _, _, _, _, _, _ => by cases hc
  | i + 1, .region _ _ _, _, hc, _, _, _, _, _, _, _, _, _, _, _, _, _, _ => by cases hc
  | i + 1, .cond _ _ _, _, hc, _, _, _, _, _, _, _, _, _, _, _, _, _, _ => by cases hc
  | i + 1, .block _ _, _, hc, _, _, _, _, _, _, _, _, _, _, _, _, _, _ => by cases hc
  | i + 1, .loop _, _, hc, _, _, _, _, _, _, _, _, _, _, _, _, _, _ => by cases hc
  | i + 1, .rangeFunc _ _ _ _, _, hc, _, _, _, _, _, _, _, _, _, _, _, _, _, _ => by cases hc
  | i + 1, .exit _, _, hc, _, _, _, _, _, _, _, _, _, _, _, _, _, _ => by cases hc
  | i + 1, .ret, _, hc, _, _, _, _, _, _, _, _, _, _, _, _, _, _ => by cases hc
  | i + 1, .scope _, _, hc, _, _, _, _, _, _, _, _, _, _, _, _, _, _ => by cases hc
  | i + 1, .label _, _, hc, _, _, _, _, _, _, _, _, _, _, _, _, _, _ => by cases hc
  | i + 1, .goto _, _, hc, _, _, _, _, _, _, _, _, _, _, _, _, _, _ => by cases hc
  | i + 1, .refuse _, _, hc, _, _, _, _, _, _, _, _, _, _, _, _, _, _ => by cases hc

/-- less is known: some of memory, the temporaries -/
structure Weak (fr₁ : Fr) (S₁ : St) (fr₂ : Fr) (S₂ : St) : Prop where
  fr : fr₂ = fr₁
  next : S₂.next = S₁.next
  sub : Sub S₂ S₁

inductive PRun (cf : CF) (lf : Nat) : KCode → Fr → St → (Exit × Fr) → St → List Nat → Prop where
  | last {k fr S p S'} (h : exec cf lf k fr S = .ok p S') : PRun cf lf k fr S p S' []
  | cut {k fr S p S' i is fr₁ S₁ fr₂ S₂} (h : execHead cf lf i k fr S = .ok fr₁ S₁) (hw : Weak fr₁ S₁ fr₂ S₂) (t : PRun cf lf (tailK i k) fr₂ S₂ p S' is) : PRun cf lf k fr S p S' (i :: is)

def canCuts : List Nat → Code → Bool
  | [], _ => true
  | i :: is, c => canCut i c && canCuts is (tailC i c)

theorem prun_ok (hcx : CxI P cx) (hm : P.follows .mixedOrders = true) {cf : CF} (hcf : CFOk (ccOf cx) P cf) {fid N n lf lo : Nat} {k : KCode} {fr : Fr} {S : St} {p : Exit × Fr} {S' : St} {is : List Nat} (h : PRun cf lf k fr S p S' is) :
    ∀ (c : Code) (ρ : Rho) (a : Act) (w : World), canCuts is c = true → cCode cx fid N c = some k → lo ≤ w.heap.size → Rel (ccOf cx) ρ S w → FrR lo N ρ S w fr a → Top S ρ → c.wpIn Fence.wide n P (PostX (ccOf cx) lo N ρ S w p S') a w := by
  induction h with
  | last h =>
    intro c ρ a w _ hk hlo hr hfr ht
    exact code_ok hcx hcf (drawn_ok hcx hm hcf) fid N c _ hk Fence.wide n lf lo _ _ _ _ ρ a w (.inl rfl) (.inl rfl) (fun l hl => by cases hl) hlo h hr hfr ht
  | cut h hw t ih =>
    rename_i k fr S p S' i is fr₁ S₁ fr₂ S₂
    intro c ρ a w hcut hk hlo hr hfr ht
    obtain ⟨hc1, hc2⟩ : canCut i c = true ∧ canCuts is (tailC i c) = true := by simpa [canCuts] using hcut
    refine head_ok hcx hm hcf i c k hc1 hk fr S fr₁ S₁ ρ a w h hlo hr hfr ht fun ρ₁ a₁ w₁ hs hfr₁ ht₁ => ?_
    have hs2 : Sim (ccOf cx) ρ S w ρ₁ S₂ w₁ := hs.alter hw.next fun id L b _ h2 => .inl (hw.sub _ _ h2)
    have hfr2 : FrR lo N ρ₁ S₂ w₁ fr₂ a₁ := by
      rw [hw.fr]
      exact ⟨hfr₁.env, hfr₁.size, hfr₁.defs.any hs2.rel⟩
    refine wpIn_mono (ih (tailC i c) ρ₁ a₁ w₁ hc2 (tail_code i c k hc1 hk) (Nat.le_trans hlo hs.frm.size) hs2.rel hfr2 (ht.sim hs2)) fun e a' w' ⟨ρ₂, g1, g2, g3, g4⟩ => ⟨ρ₂, g1, hs2.trans g2, g3, g4⟩

/-- a function of no arguments, in parts -/
theorem closed_parts (hcx : CxI P cx) (hm : P.follows .mixedOrders = true) {cf : CF} (hcf : CFOk (ccOf cx) P cf) {tab : Nat → Option KFunc} (htab : TabOk cx P tab) {f lf : Nat} {kf : KFunc} {is : List Nat} {N : Pa} {p : Exit × Fr} {S₁ S' : St} {v : V} (hf : tab f = some kf)
    (hrun : PRun cf lf kf.body ⟨.nil, []⟩ ⟨.nil, N⟩ p S₁ is) (hend : endFn cf kf p S₁ = .ok v S') (hcut : ∀ fn c, P.funcs[f]? = some fn → fn.body = some c → canCuts is c = true) :
    FnOk P f ∧ ∀ n w, CallsIn Fence.wide n P f #[] w (RetR (ccOf cx) (fun _ => none) ⟨.nil, N⟩ w v S') := by
  obtain ⟨fn, c, h1, h2, h3, h4, h5, h6⟩ := htab f kf hf
  refine ⟨⟨fn, h1, by rw [h2]; rfl, h3⟩, fun n w => ?_⟩
  obtain ⟨hx, vs, hdef, hres, rfl⟩ := endFn_ok hend
  have hr : Rel (ccOf cx) (fun _ => none) ⟨.nil, N⟩ w := ⟨fun id L b h1 _ => (by cases h1), fun id id' L L' b b' _ h1 => (by cases h1)⟩
  refine callsIn_of_wp_marks h1 h2 trivial (wpIn_mono (prun_ok hcx hm hcf (n := n) (lo := w.heap.size) hrun c (fun _ => none) _ w (hcut fn c h1 h2) h5 (Nat.le_refl _) hr ⟨start_env (vs := []) rfl fn.ntmps, by simp, .nil⟩ (fun _ _ => rfl)) fun e a' w' hq => ?_) rfl
  obtain ⟨ρ₁, he, hs, hfr, ht₁⟩ := hq
  have := leaves_ok (P := P) hcx.toCxE.toCxT hcf (n := n) h4 p.2.defers a'.defers ρ₁ S₁ S' w' hfr.defs hs ht₁ hfr.env hdef hres
  rcases exitOf_cases p.1 hx with h | h
  · rw [h] at he; subst he; exact this
  · rw [h] at he; subst he; exact this

end Go.K

namespace Go.K
variable {P : Program} {cx : Cx} {ρ ρ' : Rho} {S S' S₁ : St} {w w' : World} {cc : CC}

/-! calls without arguments whose results are known -/
abbrev Ov := Nat → St → Option (V × St)

noncomputable def callF (tab : Nat → Option KFunc) (lf : Nat) (cf : CF) (f : Nat) (args : List V) (s : St) : Res V :=
  rbind (tab f) fun fn => bIf fn.many (callFnM cf lf args s fn) (callFn cf lf args s fn)

noncomputable def callO (ov : Ov) (tab : Nat → Option KFunc) (lf : Nat) (n : Nat) : CF :=
  Nat.rec (fun _ _ => .err 57) (fun _ ih r s => Req.rec
    (fun f args => bIf (isNilL args) (Option.rec (callF tab lf ih f args s) (fun p => .ok p.1 p.2) (ov f s)) (callF tab lf ih f args s))
    (fun f args => rbind (tab f) (callDfn ih lf args s))
    (fun l args => rbind (s.get l) (roundV ih lf l args s)) r) n

def OvOk (cc : CC) (P : Program) (ov : Ov) : Prop :=
  ∀ f S v S', ov f S = some (v, S') → FnOk P f ∧ ∀ n ρ w, Rel cc ρ S w → Top S ρ → CallsIn Fence.wide n P f #[] w (RetR cc ρ S w v S')

theorem callO_ok (hcx : CxI P cx) (hm : P.follows .mixedOrders = true) {ov : Ov} (hov : OvOk (ccOf cx) P ov) {tab : Nat → Option KFunc} (htab : TabOk cx P tab) (lf : Nat) : ∀ n, CFOk (ccOf cx) P (callO ov tab lf n)
  | 0 => ⟨fun f args S v S' h => (by cases h), fun f args S v S' h => (by cases h), fun l args S v S' h => (by cases h)⟩
  | n + 1 => by
    have ih := callO_ok hcx hm hov htab lf n
    refine ⟨fun f args S v S' h => ?_, fun f args S v S' h => ?_, fun l args S v S' h => ?_⟩
    · have plain : callF tab lf (callO ov tab lf n) f args S = .ok v S' → FnOk P f ∧ ∀ n ρ w (A : Array Value), Rel (ccOf cx) ρ S w → VsR ρ args A.toList → Top S ρ → CallsIn Fence.wide n P f A w (RetR (ccOf cx) ρ S w v S') := fun h => by
        obtain ⟨kf, hf, h⟩ := rbind_ok h
        cases hmany : kf.many with
        | true => rw [hmany] at h; exact fnM_ok hcx hm ih htab hf h
        | false => rw [hmany] at h; exact fn_ok hcx hm ih htab hf h
      have h : bIf (isNilL args) (Option.rec (callF tab lf (callO ov tab lf n) f args S) (fun p => .ok p.1 p.2) (ov f S)) (callF tab lf (callO ov tab lf n) f args S) = .ok v S' := h
      rw [bIf_eq] at h
      split at h
      · rename_i hnil
        cases ho : ov f S with
        | none => rw [ho] at h; exact plain h
        | some p =>
          rw [ho] at h
          have h : Res.ok p.1 p.2 = .ok v S' := h
          injection h with e1 e2
          have hargs : args = [] := by
            cases args with
            | nil => rfl
            | cons _ _ => cases hnil
          subst hargs
          obtain ⟨g1, g2⟩ := hov f S v S' (by rw [ho, ← e1, ← e2])
          refine ⟨g1, fun n ρ w A hr hA ht => ?_⟩
          have hA : A.toList = [] := hA
          have : A = #[] := Array.ext' hA
          rw [this]
          exact g2 n ρ w hr ht
      · exact plain h
    · obtain ⟨kf, hf, h⟩ := rbind_ok (show rbind (tab f) (callDfn (callO ov tab lf n) lf args S) = .ok v S' from h)
      exact dfn_ok hcx hm ih htab hf h
    · obtain ⟨b, hb, h⟩ := rbind_ok (show rbind (S.get l) (roundV (callO ov tab lf n) lf l args S) = .ok v S' from h)
      exact round_ok hcx hm ih hb h

/-- what a closed call leaves: a value, blocks -/
noncomputable def addBlks (l : List (Nat × Blk)) (t : Tr Blk) : Tr Blk := List.rec t (fun p _ ih => Tr.set (some p.2) ih (pa p.1)) l

theorem addBlks_some : ∀ {l : List (Nat × Blk)} {t : Tr Blk} {id : Pa} {b : Blk}, Tr.get (addBlks l t) id = some b → (∃ k, id = pa k ∧ (k, b) ∈ l) ∨ Tr.get t id = some b
  | [], t, id, b, h => .inr h
  | p :: l, t, id, b, h => by
    have h : Tr.get (Tr.set (some p.2) (addBlks l t) (pa p.1)) id = some b := h
    rw [Tr.get_set] at h
    split at h
    · rename_i e
      cases h
      exact .inl ⟨p.1, e.symm, by simp⟩
    · rcases addBlks_some h with ⟨k, h1, h2⟩ | h1
      · exact .inl ⟨k, h1, by simp [h2]⟩
      · exact .inr h1

/-- every block's number lies belowN N -/
noncomputable def belowN (N : Nat) (t : Tr Blk) : Nat → Nat → Bool :=
  Tr.rec (fun _ _ => true) (fun _ v _ ihl ihr a b => bIf (Option.rec true (fun _ => Nat.ble (Nat.succ a) N) v) (bIf (ihl (Nat.add a b) (Nat.add b b)) (ihr (Nat.add a (Nat.add b b)) (Nat.add b b)) false) false) t

theorem belowN_ok {N : Nat} {x : Blk} : ∀ {t : Tr Blk} {a b : Nat} {p : Pa}, belowN N t a b = true → Tr.get t p = some x → a + b * p.toNat < N
  | .nil, a, b, p, _, h => by rw [get_nil] at h; cases h
  | .node l v r, a, b, p, hb, h => by
    have hb : bIf (Option.rec true (fun _ => Nat.ble (Nat.succ a) N) v) (bIf (belowN N l (a + b) (b + b)) (belowN N r (a + (b + b)) (b + b)) false) false = true := hb
    rw [bIf_eq] at hb
    split at hb
    · rename_i hv
      rw [bIf_eq] at hb
      split at hb
      · rename_i hl
        cases p with
        | z =>
          have h : v = some x := h
          subst h
          have hv : Nat.ble (Nat.succ a) N = true := hv
          have := Nat.le_of_ble_eq_true hv
          simp [Pa.toNat]; omega
        | l p =>
          have := belowN_ok (t := l) (p := p) hl h
          have e : b * (2 * p.toNat + 1) = (b + b) * p.toNat + b := by rw [Nat.mul_add, ← Nat.mul_assoc, Nat.mul_two]; omega
          simp only [Pa.toNat]; omega
        | r p =>
          have := belowN_ok (t := r) (p := p) hb h
          have e : b * (2 * p.toNat + 2) = (b + b) * p.toNat + (b + b) := by rw [Nat.mul_add, ← Nat.mul_assoc, Nat.mul_two]
          simp only [Pa.toNat]; omega
      · cases hb
    · cases hb

/-- a closed call's result, in whatever memory whose next number is N -/
theorem closed_ov {f : Nat} {N : Nat} {v : V} {l : List (Nat × Blk)} {S₁ : St} (hrun : ∀ n w, CallsIn Fence.wide n P f #[] w (RetR cc (fun _ => none) ⟨.nil, pa N⟩ w v S₁))
    (hin : ∀ p ∈ l, N ≤ p.1 ∧ p.1 < S₁.next.toNat ∧ S₁.get (pa p.1) = some p.2) : ∀ S ρ w n, S.next = pa N → belowN N S.heap 0 1 = true → Rel cc ρ S w → Top S ρ → CallsIn Fence.wide n P f #[] w (RetR cc ρ S w v ⟨addBlks l S.heap, S₁.next⟩) := by
  intro S ρ w n hN hbel hr ht
  refine CallsIn.mono (hrun n w) fun e w' ⟨v', ρ0, he, hv, hs⟩ => ?_
  have hNt : S.next.toNat = N := by rw [hN]; simp
  have hnx : N ≤ S₁.next.toNat := by have := hs.next; simpa using this
  have out : ∀ id, (id.toNat < N ∨ S₁.next.toNat ≤ id.toNat) → ρ0 id = none := fun id hid => hs.ext id (by
    have : (pa N).toNat = N := by simp
    show id.toNat < (pa N).toNat ∨ _
    omega)
  obtain ⟨ρ2, hρ2⟩ : ∃ r : Rho, r = fun id => if N ≤ id.toNat ∧ id.toNat < S₁.next.toNat then ρ0 id else ρ id := ⟨_, rfl⟩
  have hin2 : ∀ id, N ≤ id.toNat ∧ id.toNat < S₁.next.toNat → ρ2 id = ρ0 id := fun id h => by rw [hρ2]; exact if_pos h
  have hout2 : ∀ id, ¬ (N ≤ id.toNat ∧ id.toNat < S₁.next.toNat) → ρ2 id = ρ id := fun id h => by rw [hρ2]; exact if_neg h
  have hle0 : ρ0.le ρ2 := fun id L h => by
    by_cases hid : N ≤ id.toNat ∧ id.toNat < S₁.next.toNat
    · rw [hin2 id hid]; exact h
    · rw [out id (by omega)] at h; cases h
  have hle : ρ.le ρ2 := fun id L h => by
    by_cases hid : N ≤ id.toNat ∧ id.toNat < S₁.next.toNat
    · rw [ht id (by omega)] at h; cases h
    · rw [hout2 id hid]; exact h
  have hP : ∀ id b, (⟨addBlks l .nil, S₁.next⟩ : St).get id = some b → S₁.get id = some b ∧ N ≤ id.toNat ∧ id.toNat < S₁.next.toNat := fun id b h => by
    rcases addBlks_some (show Tr.get (addBlks l .nil) id = some b from h) with ⟨k, rfl, hk⟩ | h1
    · obtain ⟨g1, g2, g3⟩ := hin _ hk
      exact ⟨g3, by simpa using g1, by simpa using g2⟩
    · rw [get_nil] at h1; cases h1
  have hnone : ∀ blk o, ¬ Owned ρ (⟨.nil, pa N⟩ : St) blk o := fun blk o ⟨id, L, b, _, h2, _⟩ => by
    have : (⟨.nil, pa N⟩ : St).get id = none := get_nil id
    rw [this] at h2; cases h2
  have hmv : Mv cc ρ ⟨.nil, pa N⟩ w ρ2 ⟨addBlks l .nil, S₁.next⟩ w' := by
    refine ⟨⟨fun id L b h1 h2 => ?_, fun id id' L L' b b' hne h1 h1' h2 h2' => ?_⟩, ?_, fun blk o ⟨id, L, b, h1, h2, h3⟩ => ?_, fun blk ⟨id, L, b, h1, h2, h3⟩ => ?_⟩
    · obtain ⟨g1, g2⟩ := hP id b h2
      rw [hin2 id g2] at h1
      exact (hs.rel.blk id L b h1 g1).mono hle0
    · obtain ⟨g1, g2⟩ := hP id b h2
      obtain ⟨g1', g2'⟩ := hP id' b' h2'
      rw [hin2 id g2] at h1; rw [hin2 id' g2'] at h1'
      exact hs.rel.apart id id' L L' b b' hne h1 h1' g1 g1'
    · exact ⟨hs.frm.size, hs.frm.os, hs.frm.output, hs.frm.tape, fun blk o ho _ => hs.frm.obj blk o ho fun k ⟨id, L, b, h1, _⟩ => (by cases h1), fun blk c e fz ho => let ⟨c', g1, g2, g3⟩ := hs.frm.cells blk c e fz ho; ⟨c', g1, g2, fun k _ => g3 k fun ⟨id, L, b, h1, _⟩ => (by cases h1)⟩, hs.frm.loop, hs.frm.back⟩
    · obtain ⟨g1, g2⟩ := hP id b h2
      rw [hin2 id g2] at h1
      rcases hs.shr blk o ⟨id, L, b, h1, g1, h3⟩ with ⟨_, _, _, k1, _⟩ | k
      · cases k1
      · exact .inr k
    · obtain ⟨g1, g2⟩ := hP id b h2
      rw [hin2 id g2] at h1
      rcases hs.blks blk ⟨id, L, b, h1, g1, h3⟩ with ⟨_, _, _, k1, _⟩ | k
      · cases k1
      · exact .inr k
  have hlift := hmv.lift (D := S) (D' := ⟨addBlks l S.heap, S₁.next⟩) hr (fun id b h => by
    have : (⟨.nil, pa N⟩ : St).get id = none := get_nil id
    rw [this] at h; cases h) hle fun id b L h1 h2 => by
      by_cases hid : N ≤ id.toNat ∧ id.toNat < S₁.next.toNat
      · rcases addBlks_some (show Tr.get (addBlks l S.heap) id = some b from h1) with ⟨k, rfl, hk⟩ | h3
        · left
          have key : ∀ (l : List (Nat × Blk)) (t : Tr Blk), Tr.get (addBlks l t) (pa k) = some b → (∃ b', (k, b') ∈ l) → Tr.get (addBlks l .nil) (pa k) = some b := by
            intro l
            induction l with
            | nil => intro t _ ⟨_, h⟩; cases h
            | cons p l ih =>
              intro t h ⟨b', hb'⟩
              have h : Tr.get (Tr.set (some p.2) (addBlks l t) (pa p.1)) (pa k) = some b := h
              show Tr.get (Tr.set (some p.2) (addBlks l .nil) (pa p.1)) (pa k) = some b
              rw [Tr.get_set] at h ⊢
              by_cases e : pa p.1 = pa k
              · rw [if_pos e] at h ⊢; exact h
              · rw [if_neg e] at h ⊢
                refine ih t h ⟨b', ?_⟩
                rcases List.mem_cons.1 hb' with h' | h'
                · exact absurd (by rw [← h']) e
                · exact h'
          exact key l S.heap h1 ⟨b, hk⟩
        · have := belowN_ok hbel h3
          omega
      · rcases addBlks_some (show Tr.get (addBlks l S.heap) id = some b from h1) with ⟨k, rfl, hk⟩ | h3
        · obtain ⟨g1, g2, _⟩ := hin _ hk
          exact absurd ⟨by simpa using g1, by simpa using g2⟩ hid
        · exact .inr ⟨h3, get_nil id, by rw [← hout2 id hid]; exact h2⟩
  exact ⟨v', ρ2, he, hv.mono hle0, ⟨by show S.next.toNat ≤ S₁.next.toNat; omega, fun id hid => hout2 id (by
    have hid : id.toNat < S.next.toNat ∨ S₁.next.toNat ≤ id.toNat := hid
    omega), hlift.rel, hlift.frm, hlift.shr, hlift.blks⟩⟩

end Go.K

namespace Go.K
variable {P : Program} {cx : Cx} {ρ ρ' : Rho} {S S' S₁ : St} {w w' : World} {cc : CC}

/-- a closed call whose value holds no reference: nothing of memory is kept -/
theorem closed_val {f : Nat} {N : Pa} {b : Bool} {S₁ : St} (hrun : ∀ n w, CallsIn Fence.wide n P f #[] w (RetR cc (fun _ => none) ⟨.nil, N⟩ w (.bool b) S₁)) : ∀ S ρ w n, Rel cc ρ S w → CallsIn Fence.wide n P f #[] w (RetR cc ρ S w (.bool b) S) := by
  intro S ρ w n hr
  refine CallsIn.mono (hrun n w) fun e w' ⟨v', ρ0, he, hv, hs⟩ => ?_
  have hv : v' = .bool b := hv
  have none1 : ∀ blk o, ¬ Owned ρ (⟨.nil, N⟩ : St) blk o := fun blk o ⟨id, L, b, _, h2, _⟩ => by
    have : (⟨.nil, N⟩ : St).get id = none := get_nil id
    rw [this] at h2; cases h2
  have gn : ∀ id b, ¬ (⟨.nil, N⟩ : St).get id = some b := fun id b h => by
    have : (⟨.nil, N⟩ : St).get id = none := get_nil id
    rw [this] at h; cases h
  have hmv : Mv cc ρ ⟨.nil, N⟩ w ρ ⟨.nil, N⟩ w' := by
    refine ⟨⟨fun id L b _ h2 => absurd h2 (gn id b), fun id id' L L' b b' _ _ _ h2 _ => absurd h2 (gn id b)⟩, ?_, fun blk o ⟨id, L, b, _, h2, _⟩ => absurd h2 (gn id b), fun blk ⟨id, L, b, _, h2, _⟩ => absurd h2 (gn id b)⟩
    exact ⟨hs.frm.size, hs.frm.os, hs.frm.output, hs.frm.tape, fun blk o ho _ => hs.frm.obj blk o ho fun k ⟨id, L, b, h1, _⟩ => (by cases h1), fun blk c e fz ho => let ⟨c', g1, g2, g3⟩ := hs.frm.cells blk c e fz ho; ⟨c', g1, g2, fun k _ => g3 k fun ⟨id, L, b, h1, _⟩ => (by cases h1)⟩, hs.frm.loop, hs.frm.back⟩
  have hlift := hmv.lift (D := S) (D' := S) hr (fun id b h => absurd h (gn id b)) (fun _ _ h => h) fun id b L h1 h2 => .inr ⟨h1, get_nil id, h2⟩
  exact ⟨v', ρ, he, hv, ⟨Nat.le_refl _, fun _ _ => rfl, hlift.rel, hlift.frm, hlift.shr, hlift.blks⟩⟩

/-- one function whose value is known -/
noncomputable def ovB (f : Nat) (b : Bool) : Ov := fun g s => bIf (Nat.beq g f) (some (.bool b, s)) none

theorem ovB_ok {f : Nat} {b : Bool} (hfn : FnOk P f) (h : ∀ S ρ w n, Rel cc ρ S w → CallsIn Fence.wide n P f #[] w (RetR cc ρ S w (.bool b) S)) : OvOk cc P (ovB f b) := by
  intro g S v S' ho
  cases e : Nat.beq g f with
  | true =>
    have := Nat.eq_of_beq_eq_true e
    subst this
    have ho : bIf (Nat.beq g g) (some (V.bool b, S)) none = some (v, S') := ho
    rw [e] at ho
    have ho : some (V.bool b, S) = some (v, S') := ho
    cases ho
    exact ⟨hfn, fun n ρ w hr _ => h S ρ w n hr⟩
  | false =>
    have ho : bIf (Nat.beq g f) (some (V.bool b, S)) none = some (v, S') := ho
    rw [e] at ho
    exact absurd (show (none : Option (V × St)) = some (v, S') from ho) (by simp)

/-- the blocks that matter -/
noncomputable def prune (ids : List Nat) (S : St) : St :=
  ⟨List.rec .nil (fun i _ ih => Option.rec ih (fun b => Tr.set (some b) ih (pa i)) (Tr.get S.heap (pa i))) ids, S.next⟩

theorem prune_sub : ∀ (ids : List Nat) (S : St), Sub (prune ids S) S
  | [], S => fun id b h => by
    have : (prune [] S).get id = none := get_nil id
    rw [this] at h; cases h
  | i :: ids, S => fun id b h => by
    have ih := prune_sub ids S id b
    have h : Tr.get (Option.rec (prune ids S).heap (fun b => Tr.set (some b) (prune ids S).heap (pa i)) (Tr.get S.heap (pa i))) id = some b := h
    cases hg : Tr.get S.heap (pa i) with
    | none => rw [hg] at h; exact ih h
    | some c =>
      rw [hg] at h
      have h : Tr.get (Tr.set (some c) (prune ids S).heap (pa i)) id = some b := h
      rw [Tr.get_set] at h
      split at h
      · rename_i e; cases h; subst e; exact hg
      · exact ih h

noncomputable def pruneR (ids : List Nat) (r : Res Fr) : Res Fr := resBind r fun fr s => .ok fr (prune ids s)

theorem PRun.pruned {cf : CF} {lf i : Nat} {k : KCode} {fr fr₂ : Fr} {S S₂ : St} {p : Exit × Fr} {S' : St} {ids is : List Nat} (h : pruneR ids (execHead cf lf i k fr S) = .ok fr₂ S₂) (t : PRun cf lf (tailK i k) fr₂ S₂ p S' is) : PRun cf lf k fr S p S' (i :: is) := by
  obtain ⟨fr₁, S₁, h1, h2⟩ := resBind_ok (show resBind (execHead cf lf i k fr S) (fun fr s => .ok fr (prune ids s)) = .ok fr₂ S₂ from h)
  cases h2
  exact .cut (S₂ := prune ids S₁) h1 ⟨rfl, rfl, prune_sub ids S₁⟩ t

/-- a closed call's answer, for a row's text -/
theorem closed_calls {f : Nat} {N : Pa} {S₁ : St} (h : ∀ n w, CallsIn Fence.wide n P f #[] w (RetR cc (fun _ => none) ⟨.nil, N⟩ w (.bool true) S₁)) (w : World) : Calls P f #[] w fun e w' => e = .returned (.bool true) ∧ RowKit.Grown w w' := by
  refine (callsIn_wide.1 (h 0 w)).mono fun e w' ⟨v', ρ', he, hv, hs⟩ => ?_
  have hv : v' = .bool true := hv
  subst hv
  exact ⟨he, hs.frm.grown fun blk k ⟨id, L, b, h1, _⟩ => by cases h1⟩

end Go.K

namespace Go.K
variable {P : Program} {cx : Cx} {ρ ρ' : Rho} {S S' S₁ : St} {w w' : World} {cc : CC}

/-! what a printed part is written with -/
def B (n : Nat) : V := .int .u8 (.ofNat n)
def I (n : Nat) : V := .int .i64 (.ofNat n)
def bts (l : List Nat) : List V := l.map B
def N {α : Type} (l r : Tr α) : Tr α := .node l none r
def M {α : Type} (l : Tr α) (a : α) (r : Tr α) : Tr α := .node l (some a) r

noncomputable def V.isTrue (v : V) : Bool := V.rec (motive_1 := fun _ => Bool) (motive_2 := fun _ => PUnit) (fun b => b) (fun _ _ => false) (fun _ => false) (fun _ _ => false) (false) (fun _ _ _ _ => false) (false) (fun _ => false) (false) (fun _ _ _ _ _ => false) (fun _ => false) (false) (fun _ _ _ => false) (false) (fun _ _ => false) (fun _ _ => false) PUnit.unit (fun _ _ _ _ => PUnit.unit) v

noncomputable def bodyOf (tab : Nat → Option KFunc) (f : Nat) : KCode := Option.rec .skip (fun k => k.body) (tab f)
noncomputable def lastB (cf : CF) (tab : Nat → Option KFunc) (f lf : Nat) (k : KCode) (fr : Fr) (S : St) : Bool :=
  Option.rec false (fun kf => Res.rec (fun v _ => V.isTrue v) (fun _ => false) (resBind (exec cf lf k fr S) fun p s => endFn cf kf p s)) (tab f)
def cutsB (P : Program) (f : Nat) (is : List Nat) : Bool := match P.funcs[f]? with | none => false | some g => match g.body with | none => false | some c => canCuts is c

/-- a chain of parts -/
inductive Parts (cf : CF) (tab : Nat → Option KFunc) (f lf : Nat) : KCode → Fr → St → List Nat → Prop where
  | last {k fr S} (h : lastB cf tab f lf k fr S = true) : Parts cf tab f lf k fr S []
  | cut {k fr S i is fr₂ S₂} (ids : List Nat) (h : pruneR ids (execHead cf lf i k fr S) = .ok fr₂ S₂) (t : Parts cf tab f lf (tailK i k) fr₂ S₂ is) : Parts cf tab f lf k fr S (i :: is)

theorem V.isTrue_ok {v : V} (h : V.isTrue v = true) : v = .bool true := by
  cases v <;> first | (rename_i b; cases b <;> first | rfl | cases h) | cases h

theorem Parts.run {cf : CF} {tab : Nat → Option KFunc} {f lf : Nat} {k : KCode} {fr : Fr} {S : St} {is : List Nat} {kf : KFunc} (hf : tab f = some kf) (h : Parts cf tab f lf k fr S is) : ∃ p S₁ S', PRun cf lf k fr S p S₁ is ∧ endFn cf kf p S₁ = .ok (.bool true) S' := by
  induction h with
  | last h =>
    rename_i k fr S
    have h : Option.rec false (fun kf => Res.rec (fun v _ => V.isTrue v) (fun _ => false) (resBind (exec cf lf k fr S) fun p s => endFn cf kf p s)) (tab f) = true := h
    rw [hf] at h
    have h : Res.rec (motive := fun _ => Bool) (fun v _ => V.isTrue v) (fun _ => false) (resBind (exec cf lf k fr S) fun p s => endFn cf kf p s) = true := h
    cases e : resBind (exec cf lf k fr S) fun p s => endFn cf kf p s with
    | err c => rw [e] at h; cases h
    | ok v S' =>
      rw [e] at h
      have hv := V.isTrue_ok (show V.isTrue v = true from h)
      subst hv
      obtain ⟨p, S₁, h1, h2⟩ := resBind_ok e
      exact ⟨p, S₁, S', .last h1, h2⟩
  | cut ids h t ih =>
    obtain ⟨p, S₁, S', h1, h2⟩ := ih
    exact ⟨p, S₁, S', .pruned h h1, h2⟩

theorem cuts_ok {f : Nat} {is : List Nat} (h : cutsB P f is = true) : ∀ fn c, P.funcs[f]? = some fn → fn.body = some c → canCuts is c = true := fun fn c h1 h2 => by
  unfold cutsB at h
  rw [h1] at h
  simp only [h2] at h
  exact h

/-- a function of no arguments that says true, in parts -/
theorem parts_ok (hcx : CxI P cx) (hm : P.follows .mixedOrders = true) {cf : CF} (hcf : CFOk (ccOf cx) P cf) {tab : Nat → Option KFunc} (htab : TabOk cx P tab) {f lf : Nat} {is : List Nat} {Nx : Pa} (hcut : cutsB P f is = true) (h : Parts cf tab f lf (bodyOf tab f) ⟨.nil, []⟩ ⟨.nil, Nx⟩ is) (hsome : (tab f).isSome = true) :
    FnOk P f ∧ ∃ S', ∀ n w, CallsIn Fence.wide n P f #[] w (RetR (ccOf cx) (fun _ => none) ⟨.nil, Nx⟩ w (.bool true) S') := by
  cases hf : tab f with
  | none => rw [hf] at hsome; cases hsome
  | some kf =>
    have hb : bodyOf tab f = kf.body := by unfold bodyOf; rw [hf]
    rw [hb] at h
    obtain ⟨p, S₁, S', h1, h2⟩ := h.run hf
    obtain ⟨g1, g2⟩ := closed_parts hcx hm hcf htab hf h1 h2 (cuts_ok hcut)
    exact ⟨g1, S', g2⟩

end Go.K
