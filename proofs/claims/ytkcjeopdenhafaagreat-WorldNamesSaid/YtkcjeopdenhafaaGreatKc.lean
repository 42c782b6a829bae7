/- What the machine's single operations do, and that the model does the same (second part). The conditions of each theorem stand with it. -/
import Derived.Test.YtkcjeopdenhafaaGreatKb
import Derived.Laws.StructEq
import Derived.ChangeKeysEq
import Derived.Laws.Tables
import Derived.Laws.MakeOwn
import Derived.ArgAppend
import Derived.MapKept
import Derived.WideKeyRuns
namespace Go.K
variable {cc : CC} {ρ ρ' ρ₁ : Rho} {S S' S₁ : St} {w w' w₁ : World} {P : Program} {o : Oper} {x y z : Opd} {X Y Z : Operand} {cx : Cx}

/-! equality -/
theorem bBool_some {v : V} {k : Bool → Option Bool} {r : Bool} (h : bBool v k = some r) : ∃ a, v = .bool a ∧ k a = some r := by
  cases v with
  | bool a => exact ⟨a, rfl, h⟩
  | _ => cases h
theorem bInt_some {v : V} {k : IntKind → Int → Option Bool} {r : Bool} (h : bInt v k = some r) : ∃ i a, v = .int i a ∧ k i a = some r := by
  cases v with
  | int i a => exact ⟨i, a, rfl, h⟩
  | _ => cases h
theorem bStr_some {v : V} {k : List Nat → Option Bool} {r : Bool} (h : bStr v k = some r) : ∃ a, v = .str a ∧ k a = some r := by
  cases v with
  | str a => exact ⟨a, rfl, h⟩
  | _ => cases h

theorem beqNats_eq (s t : List Nat) : beqList Nat.beq s t = decide (s = t) := by
  by_cases h : s = t
  · subst h
    rw [decide_eq_true rfl]
    induction s with
    | nil => rfl
    | cons a s ih =>
      show (Bool.rec false (beqList Nat.beq s s) (Nat.beq a a) : Bool) = true
      rw [natBeq_eq, decide_eq_true rfl]; exact ih
  · rw [decide_eq_false h]
    cases hb : beqList Nat.beq s t with
    | false => rfl
    | true => exact absurd (beqList_sound Nat.beq s t (fun a _ b hab => Nat.eq_of_beq_eq_true hab) hb) h

theorem map_toNat_inj {s t : List UInt8} (h : s.map (·.toNat) = t.map (·.toNat)) : s = t := by
  induction s generalizing t with
  | nil => cases t with
    | nil => rfl
    | cons _ _ => simp at h
  | cons a s ih => cases t with
    | nil => simp at h
    | cons b t =>
      simp only [List.map_cons, List.cons.injEq] at h
      rw [ih h.2, UInt8.toNat_inj.1 h.1]

theorem bytes_beq (a b : ByteArray) : (a == b) = decide (a = b) := by
  cases a with | mk x => cases b with | mk y =>
  show (x == y) = _
  by_cases h : x = y
  · subst h; simp
  · have : ¬ (ByteArray.mk x = ByteArray.mk y) := fun e => h (by cases e; rfl)
    rw [decide_eq_false this]; simpa using h

theorem str_eq {s t : List Nat} {a b : ByteArray} (hs : s = a.data.toList.map (·.toNat)) (ht : t = b.data.toList.map (·.toNat)) : decide (s = t) = (a == b) := by
  rw [bytes_beq]
  subst hs; subst ht
  by_cases h : a = b
  · subst h; simp
  · have : ¬ (a.data.toList.map (·.toNat) = b.data.toList.map (·.toNat)) := fun e => h (by
      have h1 := map_toNat_inj e
      cases a; cases b; simp at h1; simp [h1])
    rw [decide_eq_false this, decide_eq_false h]

theorem live_iff {b : Pa} : S.live b = true ↔ ∃ x n, S.get b = some x ∧ x.size = some n := by
  have e : S.live b = (Option.rec false (fun x => (Option.rec false (fun _ => true) x.size : Bool)) (S.get b) : Bool) := rfl
  rw [e]
  cases hb : S.get b with
  | none => exact ⟨fun h => (by cases h), fun ⟨x, n, h, _⟩ => (by cases h)⟩
  | some y =>
    constructor
    · intro h
      have h : (Option.rec false (fun _ => true) y.size : Bool) = true := h
      cases hs : y.size with
      | none => rw [hs] at h; cases h
      | some n => exact ⟨y, n, rfl, hs⟩
    · rintro ⟨x, n, hx, hs⟩
      cases hx
      show (Option.rec false (fun _ => true) y.size : Bool) = true
      rw [hs]

theorem paBeq_eq (p q : Pa) : Pa.beq p q = decide (p = q) := by
  by_cases h : p = q
  · rw [decide_eq_true h]; exact (Pa.beq_iff p q).2 h
  · rw [decide_eq_false h]
    cases hb : Pa.beq p q with
    | false => rfl
    | true => exact absurd ((Pa.beq_iff p q).1 hb) h

/-- two addresses of live blocks of cells -/
theorem run_sameAddr (hr : Rel cc ρ S w) {p q : Pa} {L M : Loc} {i j : Nat} (hL : ρ p = some L) (hM : ρ q = some M) (hp : S.live p = true) (hq : S.live q = true) :
    (sameAddr ⟨L.blk, L.base + i, none⟩ ⟨M.blk, M.base + j, none⟩).run P w = .ok (decide (p = q) && decide (i = j)) w := by
  obtain ⟨x, n, hx, hxs⟩ := live_iff.1 hp
  obtain ⟨y, m, hy, hys⟩ := live_iff.1 hq
  obtain ⟨c, e, hc⟩ := hr.live hL hx (isCells_of_size hxs)
  obtain ⟨d, f, hd⟩ := hr.live hM hy (isCells_of_size hys)
  by_cases hpq : p = q
  · subst hpq
    rw [hL] at hM; cases hM
    simp [sameAddr]
    by_cases hij : i = j
    · simp [hij]
    · simp [hij]
  · have hne : L.blk ≠ M.blk := hr.apart p q L M x y hpq hL hM hx hy
    have s1 : w.shape? L.blk = some (e, c.size) := by simp [World.shape?, hc.at']
    have s2 : w.shape? M.blk = some (f, d.size) := by simp [World.shape?, hd.at']
    have f1 : ∀ i, w.frozen? ⟨L.blk, i, none⟩ = false := hc.free
    have f2 : ∀ i, w.frozen? ⟨M.blk, i, none⟩ = false := hd.free
    simp [sameAddr, hne, hpq, frozen, Sem.run, f1, noView, viewAt, shape, s1, s2, mayBeOne, stringish, f2]

theorem ok_leaf (hcx : CxT P cx) (hr : Rel cc ρ S w) {t : TypeId} {e : ETy} (he : cx.eTy t = some e) (hne : ∀ l, e ≠ .cells l) {u v : V} {U W : Value} {b : Bool} (h : eqLeaf S e u v = some b) (hu : VR ρ u U) (hv : VR ρ v W) (d : Nat) :
    (Op.equalIn (d + 1) t U W).run P w = .ok b w := by
  obtain ⟨td, htd, he⟩ := obind_some he
  have hund := run_underlying (hcx.und htd) w
  cases td with
  | bool =>
    cases he
    obtain ⟨a, rfl, h⟩ := bBool_some (show bBool u (fun a => bBool v fun b => some (beqBool a b)) = some b from h)
    obtain ⟨a', rfl, h⟩ := bBool_some h
    cases h
    have hu : U = .bool a := hu
    have hv : W = .bool a' := hv
    subst hu; subst hv
    simp [Op.equalIn, hund]
    cases a <;> cases a' <;> rfl
  | int k =>
    cases he
    obtain ⟨i, a, rfl, h⟩ := bInt_some (show bInt u (fun k a => bInt v fun j b => bIf (beqKind k j) (some (beqInt a b)) none) = some b from h)
    obtain ⟨j, a', rfl, h⟩ := bInt_some h
    obtain ⟨hk, h⟩ := bIf_none (a := some (beqInt a a')) h
    cases h
    have hij := (beqKind_eq _ _).1 hk
    subst hij
    have hu : U = .int i a := hu
    have hv : W = .int i a' := hv
    subst hu; subst hv
    simp [Op.equalIn, hund]
    rfl
  | string =>
    cases he
    obtain ⟨s, rfl, h⟩ := bStr_some (show bStr u (fun s => bStr v fun t => some (beqList Nat.beq s t)) = some b from h)
    obtain ⟨s', rfl, h⟩ := bStr_some h
    cases h
    obtain ⟨t1, rfl, h1⟩ := hu
    obtain ⟨t2, rfl, h2⟩ := hv
    rw [beqNats_eq, str_eq h1 h2]
    simp [Op.equalIn, hund]
  | pointer el =>
    obtain ⟨n, hn, he⟩ := obind_some he
    cases n with
    | zero => cases he
    | succ n =>
      cases he
      obtain ⟨ti, hi1, hi2⟩ := hcx.size hn
      have h : eqPtr S u v = some b := h
      cases u with
      | nilptr =>
        have hu : U = .pointer none := hu
        subst hu
        cases v with
        | nilptr => cases h; have hv : W = .pointer none := hv; subst hv; simp [Op.equalIn, hund]
        | ptr p i => cases h; obtain ⟨L, hL, rfl⟩ := hv; simp [Op.equalIn, hund]
        | _ => cases h
      | ptr p i =>
        obtain ⟨L, hL, rfl⟩ := hu
        cases v with
        | nilptr => cases h; have hv : W = .pointer none := hv; subst hv; simp [Op.equalIn, hund]
        | ptr q j =>
          obtain ⟨M, hM, rfl⟩ := hv
          have h : bIf (band (S.live p) (S.live q)) (some (band (Pa.beq p q) (Nat.beq i j))) none = some b := h
          obtain ⟨hl, h⟩ := bIf_none h
          cases h
          obtain ⟨hp, hq⟩ : S.live p = true ∧ S.live q = true := by simpa using hl
          have := run_sameAddr (P := P) hr (i := i) (j := j) hL hM hp hq
          rw [band_eq, paBeq_eq, natBeq_eq]
          simp [Op.equalIn, hund, run_sizeOf' hi1, hi2, this]
        | _ => cases h
      | _ => cases h
  | slice el =>
    cases he
    have h : eqSlice u v = some b := h
    cases u with
    | nilslice =>
      have hu : U = .slice none 0 0 := hu
      subst hu
      cases v with
      | nilslice => cases h; have hv : W = .slice none 0 0 := hv; subst hv; simp [Op.equalIn, hund]
      | slice p i l c => cases h; obtain ⟨L, o', c', hL, rfl, _⟩ := hv; simp [Op.equalIn, hund]
      | _ => cases h
    | slice p i l c =>
      obtain ⟨L, o', c', hL, rfl, _⟩ := hu
      cases v with
      | nilslice => cases h; have hv : W = .slice none 0 0 := hv; subst hv; simp [Op.equalIn, hund]
      | _ => cases h
    | _ => cases h
  | map k el =>
    cases he
    have h : eqMap u v = some b := h
    cases u with
    | nilmap =>
      have hu : U = .map none := hu
      subst hu
      cases v with
      | nilmap => cases h; have hv : W = .map none := hv; subst hv; simp [Op.equalIn, hund]
      | map p => cases h; obtain ⟨L, hL, rfl⟩ := hv; simp [Op.equalIn, hund]
      | _ => cases h
    | map p =>
      obtain ⟨L, hL, rfl⟩ := hu
      cases v with
      | nilmap => cases h; have hv : W = .map none := hv; subst hv; simp [Op.equalIn, hund]
      | _ => cases h
    | _ => cases h
  | func ps rs va =>
    cases he
    have h : eqFunc u v = some b := h
    cases u with
    | nilfunc =>
      have hu : U = .nilFunc := hu
      subst hu
      cases v with
      | nilfunc => cases h; have hv : W = .nilFunc := hv; subst hv; simp [Op.equalIn, hund]
      | func f p q => cases h; obtain ⟨p', q', rfl, _⟩ := hv; simp [Op.equalIn, hund]
      | _ => cases h
    | func f p q =>
      obtain ⟨p', q', rfl, _⟩ := hu
      cases v with
      | nilfunc => cases h; have hv : W = .nilFunc := hv; subst hv; simp [Op.equalIn, hund]
      | _ => cases h
    | _ => cases h
  | interface ms =>
    cases he
    have h : eqIface u v = some b := h
    cases u with
    | niliface =>
      have hu : U = .nilIface := hu
      subst hu
      cases v with
      | niliface => cases h; have hv : W = .nilIface := hv; subst hv; simp [Op.equalIn, hund]
      | iface t' p => cases h; obtain ⟨p', rfl, _⟩ := hv; simp [Op.equalIn, hund]
      | _ => cases h
    | iface t' p =>
      obtain ⟨p', rfl, _⟩ := hu
      cases v with
      | niliface => cases h; have hv : W = .nilIface := hv; subst hv; simp [Op.equalIn, hund]
      | _ => cases h
    | _ => cases h
  | struct fs => obtain ⟨l, hl, he⟩ := obind_some he; cases he; exact absurd rfl (hne l)
  | array n el => obtain ⟨l, hl, he⟩ := obind_some he; cases he; exact absurd rfl (hne l)
  | _ => cases he

/-- a type whose values are compared cell by cell -/
structure EqOk (P : Program) (cx : Cx) (t : TypeId) (l : List ETy) : Prop where
  guard : P.eqGuardType P.depth t = false
  leaf : ∀ e ∈ l, ∀ m, e ≠ .cells m
  kind : (∃ fs : Array Field, P.underlying t = some (.struct fs) ∧ P.stoodInHeld t = false ∧ fs.size = l.length ∧
      ∀ (i : Nat) (f : Field), fs[i]? = some f → f.name ≠ "_" ∧ f.offset = i ∧ cx.agg f.type = some false ∧ cx.eTy f.type = l[i]?) ∨
    (∃ n e ety, P.underlying t = some (.array n e) ∧ cx.size e = some 1 ∧ cx.agg e = some false ∧ cx.eTy e = some ety ∧ l = List.replicate n ety)

/-- what the compiler was told is so -/
structure CxE (P : Program) (cx : Cx) : Prop extends CxT P cx where
  eqs : ∀ t l, Tr.get cx.eqs (pa t) = some l → EqOk P cx t l

theorem eqCells_nil {xs ys : List V} {b : Bool} (h : eqCells S [] xs ys = some b) : b = true ∧ xs = [] ∧ ys = [] := by
  cases xs with
  | nil => cases ys with
    | nil => cases h; exact ⟨rfl, rfl, rfl⟩
    | cons _ _ => cases h
  | cons _ _ => cases h
theorem eqCells_cons (e : ETy) (es : List ETy) (x y : V) (xs ys : List V) : eqCells S (e :: es) (x :: xs) (y :: ys) = obind (eqLeaf S e x y) fun b => Bool.rec (some false) (eqCells S es xs ys) b := rfl

theorem part_one (hcx : CxT P cx) {t : TypeId} (hg : cx.agg t = some false) {arr : Array Value} {i : Nat} {v : Value} (h : arr[i]? = some v) : (part t arr i).run P w = .ok v w := by
  simp [part, hcx.agg hg w, h]

/-- struct: field by field -/
theorem run_fields (hcx : CxT P cx) (hr : Rel cc ρ S w) (d : Nat) (xs ys : Array Value) : ∀ (fs : List Field) (es : List ETy) (us vs : List V) (k : Nat) (b : Bool),
    fs.length = es.length → (∀ (i : Nat) (f : Field), fs[i]? = some f → f.name ≠ "_" ∧ f.offset = k + i ∧ cx.agg f.type = some false ∧ cx.eTy f.type = es[i]?) → (∀ e ∈ es, ∀ m, e ≠ .cells m) →
    VsR ρ us (xs.toList.drop k) → VsR ρ vs (ys.toList.drop k) → eqCells S es us vs = some b → (Op.eqFields (d + 1) xs ys fs).run P w = .ok b w
  | [], es, us, vs, k, b, hl, hf, hn, hu, hv, h => by
    have : es = [] := List.length_eq_zero_iff.1 hl.symm
    subst this
    obtain ⟨rfl, _, _⟩ := eqCells_nil h
    simp [Op.eqFields]
  | f :: fs, [], us, vs, k, b, hl, hf, hn, hu, hv, h => by simp at hl
  | f :: fs, e :: es, [], vs, k, b, hl, hf, hn, hu, hv, h => by cases h
  | f :: fs, e :: es, u :: us, [], k, b, hl, hf, hn, hu, hv, h => by cases h
  | f :: fs, e :: es, u :: us, v :: vs, k, b, hl, hf, hn, ⟨U, ms, hU, hu1, hu2⟩, ⟨W, ns, hW, hv1, hv2⟩, h => by
    rw [eqCells_cons] at h
    obtain ⟨b1, hb1, h⟩ := obind_some h
    obtain ⟨f1, f2, f3, f4⟩ := hf 0 f rfl
    have hleaf := ok_leaf hcx hr (e := e) (by simpa using f4) (hn e (by simp)) hb1 hu1 hv1 d
    have hx : xs[k]? = some U := by
      have : (xs.toList.drop k)[0]? = some U := by rw [hU]; rfl
      simpa using this
    have hy : ys[k]? = some W := by
      have : (ys.toList.drop k)[0]? = some W := by rw [hW]; rfl
      simpa using this
    have p1 := part_one (P := P) (w := w) hcx f3 hx
    have p2 := part_one (P := P) (w := w) hcx f3 hy
    have hdx : xs.toList.drop (k + 1) = ms := by rw [← List.drop_drop, hU]; rfl
    have hdy : ys.toList.drop (k + 1) = ns := by rw [← List.drop_drop, hW]; rfl
    have hrest : b1 = true → (Op.eqFields (d + 1) xs ys fs).run P w = .ok b w := fun hb => by
      subst hb
      exact run_fields hcx hr d xs ys fs es us vs (k + 1) b (by simpa using hl) (fun i g hg => by
        have := hf (i + 1) g (by simpa using hg)
        refine ⟨this.1, by omega, this.2.2.1, by simpa using this.2.2.2⟩) (fun e' he' => hn e' (by simp [he'])) (by rw [hdx]; exact hu2) (by rw [hdy]; exact hv2) h
    simp only [Nat.add_zero] at f2
    cases b1 with
    | true =>
      have := hrest rfl
      simp [Op.eqFields, f1, f2, p1, p2, hleaf, this]
    | false =>
      cases h
      simp [Op.eqFields, f1, f2, p1, p2, hleaf]

end Go.K

namespace Go.K
variable {cc : CC} {ρ ρ' ρ₁ : Rho} {S S' S₁ : St} {w w' w₁ : World} {P : Program} {o : Oper} {x y z : Opd} {X Y Z : Operand} {cx : Cx}

/-- array: item by item -/
theorem run_items (hcx : CxT P cx) (hr : Rel cc ρ S w) (d : Nat) {el : TypeId} {ety : ETy} (hg : cx.agg el = some false) (hy : cx.eTy el = some ety) (hnc : ∀ m, ety ≠ .cells m) (xs ys : Array Value) :
    ∀ (n k : Nat) (us vs : List V) (b : Bool), VsR ρ us (xs.toList.drop k) → VsR ρ vs (ys.toList.drop k) → eqCells S (List.replicate n ety) us vs = some b →
      (Op.eqItems (d + 1) el 1 xs ys (List.range' k n)).run P w = .ok b w
  | 0, k, us, vs, b, hu, hv, h => by obtain ⟨rfl, _, _⟩ := eqCells_nil h; simp [Op.eqItems]
  | n + 1, k, [], vs, b, hu, hv, h => by cases h
  | n + 1, k, u :: us, [], b, hu, hv, h => by cases h
  | n + 1, k, u :: us, v :: vs, b, ⟨U, ms, hU, hu1, hu2⟩, ⟨W, ns, hW, hv1, hv2⟩, h => by
    rw [List.replicate_succ, eqCells_cons] at h
    obtain ⟨b1, hb1, h⟩ := obind_some h
    have hleaf := ok_leaf hcx hr hy hnc hb1 hu1 hv1 d
    have hx : xs[k]? = some U := by
      have : (xs.toList.drop k)[0]? = some U := by rw [hU]; rfl
      simpa using this
    have hyy : ys[k]? = some W := by
      have : (ys.toList.drop k)[0]? = some W := by rw [hW]; rfl
      simpa using this
    have p1 := part_one (P := P) (w := w) hcx hg hx
    have p2 := part_one (P := P) (w := w) hcx hg hyy
    have hdx : xs.toList.drop (k + 1) = ms := by rw [← List.drop_drop, hU]; rfl
    have hdy : ys.toList.drop (k + 1) = ns := by rw [← List.drop_drop, hW]; rfl
    rw [List.range'_succ]
    cases b1 with
    | true =>
      have := run_items hcx hr d hg hy hnc xs ys n (k + 1) us vs b (by rw [hdx]; exact hu2) (by rw [hdy]; exact hv2) h
      simp [Op.eqItems, p1, p2, hleaf, this]
    | false =>
      cases h
      simp [Op.eqItems, p1, p2, hleaf]

theorem eqAgg_some {l : List ETy} {u v : V} {b : Bool} (h : eqAgg l S u v = some b) : ∃ xs ys, u = .agg xs ∧ v = .agg ys ∧ eqCells S l xs ys = some b := by
  cases u with
  | agg xs => cases v with
    | agg ys => exact ⟨xs, ys, rfl, rfl, h⟩
    | _ => cases h
  | _ => cases h

theorem eTy_cells (hcx : CxE P cx) {t : TypeId} {l : List ETy} (h : cx.eTy t = some (.cells l)) : EqOk P cx t l := by
  obtain ⟨d, hd, h⟩ := obind_some h
  cases d with
  | struct fs => obtain ⟨m, hm, h⟩ := obind_some h; cases h; exact hcx.eqs t l hm
  | array n e => obtain ⟨m, hm, h⟩ := obind_some h; cases h; exact hcx.eqs t l hm
  | pointer e => obtain ⟨n, hn, h⟩ := obind_some h; cases n <;> cases h
  | _ => cases h

theorem run_eqV (hcx : CxE P cx) (hr : Rel cc ρ S w) {t : TypeId} {e : ETy} (he : cx.eTy t = some e) {u v : V} {U W : Value} {b : Bool} (h : eqV S e u v = some b) (hu : VR ρ u U) (hv : VR ρ v W) (d : Nat) :
    (Op.equalIn (d + 2) t U W).run P w = .ok b w := by
  by_cases hc : ∃ l, e = .cells l
  · obtain ⟨l, rfl⟩ := hc
    obtain ⟨xs, ys, rfl, rfl, h⟩ := eqAgg_some (show eqAgg l S u v = some b from h)
    obtain ⟨A, rfl, hA, _⟩ := hu
    obtain ⟨B, rfl, hB, _⟩ := hv
    have hq := eTy_cells hcx he
    rcases hq.kind with ⟨fs, k1, k2, k3, k4⟩ | ⟨n, el, ety, k1, k2, k3, k4, k5⟩
    · have hfs : P.fieldsOf t = fs := by unfold Program.fieldsOf; rw [k1]
      rw [run_equalIn_struct w (d + 1) t A B (by rw [hfs]; exact k1) k2, hfs]
      exact run_fields hcx.toCxT hr d A B fs.toList l xs ys 0 b (by simpa using k3) (fun i f hf => by
        have := k4 i f (by simpa using hf)
        rw [Nat.zero_add]; exact this) hq.leaf (by simpa using hA) (by simpa using hB) h
    · obtain ⟨i, hi1, hi2⟩ := hcx.size k2
      have hco : P.cellsOf el = 1 := by unfold Program.cellsOf; rw [hi1]; exact hi2
      rw [run_equalIn_array w (d + 1) A B k1 hi1, hco, List.range_eq_range']
      subst k5
      refine run_items hcx.toCxT hr d k3 k4 (fun m => ?_) A B n 0 xs ys b (by simpa using hA) (by simpa using hB) h
      intro hm
      cases n with
      | zero =>
        subst hm
        have := eTy_cells hcx k4
        exact absurd k3 (by
          rcases this.kind with ⟨fs, g1, _⟩ | ⟨n', el', _, g1, _⟩
          all_goals
            intro hag
            obtain ⟨dd, hd1, hd2⟩ := obind_some hag
            rw [hcx.und hd1] at g1
            cases g1
            cases hd2)
      | succ n => exact hq.leaf ety (by simp [List.replicate_succ]) m hm
  · have hne : ∀ l, e ≠ .cells l := fun l hl => hc ⟨l, hl⟩
    refine ok_leaf hcx.toCxT hr he hne ?_ hu hv (d + 1)
    cases e with
    | cells l => exact absurd rfl (hne l)
    | _ => exact h

theorem run_equal (hcx : CxE P cx) (hr : Rel cc ρ S w) {t : TypeId} {e : ETy} (he : cx.eTy t = some e) {u v : V} {U W : Value} {b : Bool} (h : eqV S e u v = some b) (hu : VR ρ u U) (hv : VR ρ v W) :
    (Op.equal t U W).run P w = .ok b w := run_eqV hcx hr he h hu hv 9998

theorem isConst_matches {X : Operand} (h : isConstO X = true) : (X matches .const _) = true := by cases X <;> first | rfl | cases h

theorem guard_ok (hcx : CxE P cx) {op : BinOp} {t : TypeId} {e : ETy} (he : cx.eTy t = some e) {u v : V} {U W : Value} {b : Bool} (h : eqV S e u v = some b) (hu : VR ρ u U) (hv : VR ρ v W)
    (hl : (isConstO X = true ∨ isConstO Y = true) ∨ ¬ (u = .niliface ∧ v = .niliface)) (w : World) : (eqGuard op t X Y U W).run P w = .ok () w := by
  cases u with
  | niliface =>
    have hu : U = .nilIface := hu
    subst hu
    cases v with
    | niliface =>
      have hv : W = .nilIface := hv
      subst hv
      rcases hl with (hl | hl) | hl
      · cases X with
        | const c => unfold eqGuard; cases op <;> first | rfl | simp
        | _ => cases hl
      · cases Y with
        | const c => unfold eqGuard; cases op <;> first | rfl | simp
        | _ => cases hl
      · exact absurd ⟨rfl, rfl⟩ hl
    | iface t' x => obtain ⟨y, rfl, _⟩ := hv; cases op <;> rfl
    | _ => cases e <;> cases h
  | agg xs =>
    cases e with
    | cells l =>
      have hq := eTy_cells hcx he
      obtain ⟨A, rfl, _⟩ := hu
      obtain ⟨xs', ys, hxs, rfl, _⟩ := eqAgg_some (show eqAgg l S (.agg xs) v = some b from h)
      obtain ⟨B, rfl, _⟩ := hv
      have := hq.guard
      unfold eqGuard
      cases op <;> first | rfl | simp [this]
    | _ => cases h
  | str s => obtain ⟨_, rfl, _⟩ := hu; cases op <;> rfl
  | ptr _ _ => obtain ⟨_, _, rfl⟩ := hu; cases op <;> rfl
  | slice _ _ _ _ => obtain ⟨_, _, _, _, rfl, _⟩ := hu; cases op <;> rfl
  | map _ => obtain ⟨_, _, rfl⟩ := hu; cases op <;> rfl
  | func _ _ _ => obtain ⟨_, _, rfl, _⟩ := hu; cases op <;> rfl
  | yield _ => obtain ⟨_, _, rfl⟩ := hu; cases op <;> rfl
  | iface _ _ => obtain ⟨_, rfl, _⟩ := hu; cases op <;> rfl
  | tup _ => obtain ⟨_, rfl, _⟩ := hu; cases op <;> rfl
  | _ => rw [show U = _ from hu]; cases op <;> rfl

theorem eqV_int {e : ETy} {k : IntKind} {n : Int} {v : V} {b : Bool} (h : eqV S e (.int k n) v = some b) : ∃ m, v = .int k m ∧ b = decide (n = m) := by
  cases e with
  | int =>
    obtain ⟨i, a, ha, h⟩ := bInt_some (show bInt (.int k n) (fun k a => bInt v fun j b => bIf (beqKind k j) (some (beqInt a b)) none) = some b from h)
    cases ha
    obtain ⟨j, a', rfl, h⟩ := bInt_some h
    obtain ⟨hk, h⟩ := bIf_none (a := some (beqInt n a')) h
    cases h
    have hij := (beqKind_eq _ _).1 hk
    subst hij
    refine ⟨a', rfl, ?_⟩
    exact beqInt_eq _ _
  | _ => cases h

theorem eqV_str {e : ETy} {s : List Nat} {v : V} {b : Bool} (h : eqV S e (.str s) v = some b) : ∃ m, v = .str m ∧ b = decide (s = m) := by
  cases e with
  | str =>
    obtain ⟨i, ha, h⟩ := bStr_some (show bStr (.str s) (fun s => bStr v fun t => some (beqList Nat.beq s t)) = some b from h)
    cases ha
    obtain ⟨j, rfl, h⟩ := bStr_some h
    cases h
    exact ⟨j, rfl, beqNats_eq _ _⟩
  | _ => cases h

/-- == on related values -/
theorem run_eql (hcx : CxE P cx) (hr : Rel cc ρ S w) {t : TypeId} {e : ETy} (he : cx.eTy t = some e) {u v : V} {U W : Value} {b : Bool} (h : eqV S e u v = some b) (hu : VR ρ u U) (hv : VR ρ v W) :
    (binOp .eql t U W).run P w = .ok (.bool b) w ∧ (binOp .neq t U W).run P w = .ok (.bool (!b)) w := by
  have heq := run_equal hcx hr he h hu hv
  cases u with
  | int k n =>
    have hu : U = .int k n := hu
    subst hu
    obtain ⟨m, rfl, hb⟩ := eqV_int h
    have hv : W = .int k m := hv
    subst hv
    subst hb
    by_cases hnm : n = m
    · subst hnm; simp [binOp, Op.intCmp]
    · simp [binOp, Op.intCmp, hnm]
  | str s =>
    obtain ⟨a, rfl, ha⟩ := hu
    obtain ⟨m, rfl, hb⟩ := eqV_str h
    obtain ⟨c, rfl, hc⟩ := hv
    subst hb
    rw [str_eq ha hc, beq_toListBytes]
    simp [binOp, Op.stringOp]
  | bool _ => have hu : U = _ := hu; subst hu; simp [binOp, heq]
  | nilptr => have hu : U = _ := hu; subst hu; simp [binOp, heq]
  | nilslice => have hu : U = _ := hu; subst hu; simp [binOp, heq]
  | nilmap => have hu : U = _ := hu; subst hu; simp [binOp, heq]
  | nilfunc => have hu : U = _ := hu; subst hu; simp [binOp, heq]
  | niliface => have hu : U = _ := hu; subst hu; simp [binOp, heq]
  | ptr _ _ => obtain ⟨_, _, rfl⟩ := hu; simp [binOp, heq]
  | slice _ _ _ _ => obtain ⟨_, _, _, _, rfl, _⟩ := hu; simp [binOp, heq]
  | map _ => obtain ⟨_, _, rfl⟩ := hu; simp [binOp, heq]
  | func _ _ _ => obtain ⟨_, _, rfl, _⟩ := hu; simp [binOp, heq]
  | yield _ => obtain ⟨_, _, rfl⟩ := hu; simp [binOp, heq]
  | iface _ _ => obtain ⟨_, rfl, _⟩ := hu; simp [binOp, heq]
  | agg _ => obtain ⟨_, rfl, _⟩ := hu; simp [binOp, heq]
  | tup _ => obtain ⟨_, rfl, _⟩ := hu; simp [binOp, heq]

theorem ok_eq (hcx : CxE P cx) {op : BinOp} {neg : Bool} {t : TypeId} {e : ETy} {pos : TypeId} (ho : o.op = .binOp op t X Y pos) (hop : (op = .eql ∧ neg = false) ∨ (op = .neq ∧ neg = true)) (he' : cx.eTy t = some e)
    (hx : cOpd X = some x) (hy : cOpd Y = some y) : OpOk cc P o (.eq neg e (Bool.rec (isConstO Y) true (isConstO X)) x y) := .pure' fun env S v S' ρ a w he hr hen => by
  obtain ⟨hg, he⟩ : (band (bnot (Bool.rec (isConstO Y) true (isConstO X))) (band (isNilIface (env.look x)) (isNilIface (env.look y)))) = false ∧
      (rbind (eqV S e (env.look x) (env.look y)) fun r => Res.ok (.bool (bIf neg (bnot r) r)) S) = .ok v S' := by
    cases hc : (band (bnot (Bool.rec (isConstO Y) true (isConstO X))) (band (isNilIface (env.look x)) (isNilIface (env.look y)))) with
    | true => exact absurd he (by show bIf _ _ _ ≠ _; rw [hc]; intro h; cases h)
    | false => exact ⟨rfl, by rw [← he]; show _ = bIf _ _ _; rw [hc]; rfl⟩
  obtain ⟨b, hb, he⟩ := rbind_ok he
  cases he
  have vx := opd_sound hx hen
  have vy := opd_sound hy hen
  have hguard := guard_ok (op := op) (X := X) (Y := Y) hcx he' hb vx vy (by
    by_cases hl : isConstO X = true ∨ isConstO Y = true
    · exact .inl hl
    · refine .inr fun ⟨h1, h2⟩ => ?_
      rw [h1, h2] at hg
      cases h3 : isConstO X with
      | true => exact hl (.inl h3)
      | false => cases h4 : isConstO Y with
        | true => exact hl (.inr h4)
        | false => rw [h3, h4] at hg; cases hg) w
  obtain ⟨r1, r2⟩ := run_eql hcx hr he' hb vx vy
  refine ⟨rfl, .bool (bIf neg (bnot b) b), ?_, rfl⟩
  rcases hop with ⟨rfl, rfl⟩ | ⟨rfl, rfl⟩
  · simp [execOp, ho, hguard, r1, bIf]
  · simp [execOp, ho, hguard, r2, bIf]

end Go.K

namespace Go.K
variable {cc : CC} {ρ ρ' ρ₁ : Rho} {S S' S₁ : St} {w w' w₁ : World} {P : Program} {o : Oper} {x y z : Opd} {X Y Z : Operand} {cx : Cx}

/-! the comparison of values is right -/
theorem beqBool_iff {a b : Bool} (h : beqBool a b = true) : a = b := by cases a <;> cases b <;> first | rfl | cases h

theorem V.beq1_sound (rec : V → V → Bool) (hrec : ∀ a b, rec a b = true → a = b) (a b : V) (h : V.beq1 rec a b = true) : a = b := by
  cases a with
  | bool x => cases b with
    | bool y => rw [beqBool_iff (show beqBool x y = true from h)]
    | _ => cases h
  | int k x => cases b with
    | int j y =>
      obtain ⟨h1, h2⟩ : beqKind k j = true ∧ beqInt x y = true := by simpa using (show band (beqKind k j) (beqInt x y) = true from h)
      rw [(beqKind_eq _ _).1 h1, show x = y by simpa using h2]
    | _ => cases h
  | str s => cases b with
    | str t => rw [beqList_sound Nat.beq s t (fun a _ b hab => Nat.eq_of_beq_eq_true hab) h]
    | _ => cases h
  | ptr p i => cases b with
    | ptr q j =>
      obtain ⟨h1, h2⟩ : Pa.beq p q = true ∧ Nat.beq i j = true := by simpa using (show band (Pa.beq p q) (Nat.beq i j) = true from h)
      rw [(Pa.beq_iff _ _).1 h1, Nat.eq_of_beq_eq_true h2]
    | _ => cases h
  | nilptr => cases b <;> first | rfl | cases h
  | slice p i l c => cases b with
    | slice q j m d =>
      obtain ⟨h1, h2, h3, h4⟩ : Pa.beq p q = true ∧ Nat.beq i j = true ∧ Nat.beq l m = true ∧ Nat.beq c d = true := by simpa using (show band (Pa.beq p q) (band (Nat.beq i j) (band (Nat.beq l m) (Nat.beq c d))) = true from h)
      rw [(Pa.beq_iff _ _).1 h1, Nat.eq_of_beq_eq_true h2, Nat.eq_of_beq_eq_true h3, Nat.eq_of_beq_eq_true h4]
    | _ => cases h
  | nilslice => cases b <;> first | rfl | cases h
  | map r => cases b with
    | map q => rw [(Pa.beq_iff _ _).1 (show Pa.beq r q = true from h)]
    | _ => cases h
  | nilmap => cases b <;> first | rfl | cases h
  | func f p q => cases b with
    | func g p' q' =>
      obtain ⟨h1, h2, h3⟩ : Nat.beq f g = true ∧ beqList rec p p' = true ∧ beqList rec q q' = true := by simpa using (show band (Nat.beq f g) (band (beqList rec p p') (beqList rec q q')) = true from h)
      rw [Nat.eq_of_beq_eq_true h1, beqList_sound rec p p' (fun a _ b => hrec a b) h2, beqList_sound rec q q' (fun a _ b => hrec a b) h3]
    | _ => cases h
  | yield l => cases b with
    | yield m => rw [(Pa.beq_iff _ _).1 (show Pa.beq l m = true from h)]
    | _ => cases h
  | nilfunc => cases b <;> first | rfl | cases h
  | iface t u => cases b with
    | iface t' u' =>
      obtain ⟨h1, h2⟩ : Nat.beq t t' = true ∧ rec u u' = true := by simpa using (show band (Nat.beq t t') (rec u u') = true from h)
      rw [show t = t' from Nat.eq_of_beq_eq_true h1, hrec _ _ h2]
    | _ => cases h
  | niliface => cases b <;> first | rfl | cases h
  | agg cs => cases b with
    | agg ds => rw [beqList_sound rec cs ds (fun a _ b => hrec a b) h]
    | _ => cases h
  | tup cs => cases b with
    | tup ds => rw [beqList_sound rec cs ds (fun a _ b => hrec a b) h]
    | _ => cases h

theorem V.beq_sound : ∀ (n : Nat) (a b : V), V.beq n a b = true → a = b
  | 0, _, _, h => by cases h
  | n + 1, a, b, h => V.beq1_sound (V.beq n) (V.beq_sound n) a b h

/-! the rest of the arithmetic -/
theorem ok_bin {op : BinOp} {t : TypeId} {pos : TypeId} (ho : o.op = .binOp op t X Y pos) (hop : op ≠ .eql ∧ op ≠ .neq) (hx : cOpd X = some x) (hy : cOpd Y = some y) : OpOk cc P o (.bin op x y) :=
  .pure' fun env S v S' ρ a w he hr hen => by
  obtain ⟨hS, he2⟩ := okV_ok (x := binV op (env.look x) (env.look y)) he
  subst hS
  have vx := opd_sound hx hen
  have vy := opd_sound hy hen
  have hgd : (eqGuard op t X Y (a.eval X) (a.eval Y)).run P w = .ok () w := eqGuard_other t X Y _ _ hop.1 hop.2
  obtain ⟨v', h1, h2⟩ : ∃ v', (binOp op t (a.eval X) (a.eval Y)).run P w = .ok v' w ∧ VR ρ v v' := by
    cases hlx : env.look x with
    | int k n =>
      rw [hlx] at he2 vx
      obtain ⟨j, m, hly, he2⟩ := oInt_some (show oInt (env.look y) (fun j b => Bool.rec (Bool.rec none (arith op k n b) (beqKind k j)) (shiftV op k n b) (isShift op)) = some v from he2)
      rw [hly] at vy
      have vx : a.eval X = .int k n := vx
      have vy : a.eval Y = .int j m := vy
      rw [vx, vy]
      cases hs : isShift op with
      | true => rw [hs] at he2; exact shift_sound he2 t ρ
      | false =>
        rw [hs] at he2
        cases hk : beqKind k j with
        | false => rw [hk] at he2; cases he2
        | true =>
          rw [hk] at he2
          have hkj := (beqKind_eq _ _).1 hk
          subst hkj
          exact arith_sound he2 hs t ρ
    | str s =>
      rw [hlx] at he2 vx
      obtain ⟨s', hly, he2⟩ := oStr_some (show oStr (env.look y) (strOp op s) = some v from he2)
      rw [hly] at vy
      obtain ⟨A, hA, hsA⟩ := vx
      obtain ⟨B, hB, hsB⟩ := vy
      rw [hA, hB]
      cases op with
      | add =>
        have he2 : (Bool.rec none (some (.str (lapp s s'))) (Nat.ble (Nat.add (llen s) (llen s')) 4611686018427387904) : Option V) = some v := he2
        cases hb : Nat.ble (Nat.add (llen s) (llen s')) 4611686018427387904 with
        | false => rw [hb] at he2; cases he2
        | true =>
          rw [hb] at he2
          cases he2
          have hle := Nat.le_of_ble_eq_true hb
          rw [llen_eq, llen_eq, str_len hsA, str_len hsB] at hle
          have hle : A.size + B.size ≤ 4611686018427387904 := hle
          have hnot : ¬ (9223372036854775807 < (A.size : Int) + (B.size : Int)) := by omega
          refine ⟨.string (A ++ B), by simp [binOp, Op.stringOp, hnot], A ++ B, rfl, ?_⟩
          rw [lapp_eq, hsA, hsB, ByteArray.data_append]
          simp
      | eql => exact absurd rfl hop.1
      | neq => exact absurd rfl hop.2
      | _ => cases he2
    | _ => rw [hlx] at he2; cases he2
  exact ⟨rfl, v', by simp [execOp, ho, hgd, h1], h2⟩

theorem foldlM_minmax {mx : Bool} {ρ : Rho} : ∀ (l : List V) (acc r : V) (L : List Value) (A : Value), mmL mx l acc = some r → VR ρ acc A → VsR ρ l L →
    ∃ B, (L.foldlM (if mx then Builtin.max2 else Builtin.min2) A).run P w = .ok B w ∧ VR ρ r B
  | [], acc, r, L, A, h, hA, hL => by cases h; cases (show L = [] from hL); exact ⟨A, by simp, hA⟩
  | v :: l, acc, r, L, A, h, hA, ⟨a, m, hm, ha, hl⟩ => by
    subst hm
    obtain ⟨acc', h1, h2⟩ := obind_some (show obind (mm mx acc v) (mmL mx l) = some r from h)
    obtain ⟨k, p, e1, h3⟩ := oInt_some (show oInt acc (fun k x => oInt v fun _ y => some (.int k (bIf mx (bIf (ilt x y) y x) (bIf (ilt y x) y x)))) = some acc' from h1)
    obtain ⟨j, q, e2, h4⟩ := oInt_some h3
    cases h4
    clear h h1 h3
    subst e1
    subst e2
    have hA : A = .int k p := hA
    have ha : a = .int j q := ha
    subst hA; subst ha
    obtain ⟨B, hB, hr⟩ := foldlM_minmax l _ r m (.int k (bIf mx (bIf (ilt p q) q p) (bIf (ilt q p) q p))) h2 rfl hl
    refine ⟨B, ?_, hr⟩
    rw [List.foldlM_cons, Sem.run_bind]
    have : ((if mx = true then Builtin.max2 else Builtin.min2) (.int k p) (.int j q)).run P w = .ok (.int k (bIf mx (bIf (ilt p q) q p) (bIf (ilt q p) q p))) w := by
      cases mx with
      | true => simp [Builtin.max2, bIf_eq, ilt_eq]
      | false => simp [Builtin.min2, bIf_eq, ilt_eq]
    rw [this]
    exact hB

theorem ok_minmax {mx : Bool} {args : Array Operand} {tys : Array TypeId} {l : List Opd} (ho : o.op = .call { callee := .builtin (if mx then .max else .min), args, argTypes := tys }) (hx : cOpds args = some l) :
    OpOk cc P o (.minmax mx l) := .pure' fun env S v S' ρ a w he hr hen => by
  have vl := opds_sound hx hen
  cases l with
  | nil => cases he
  | cons q l =>
    obtain ⟨hq, he⟩ := bIf_err (a := okV S (mmL mx (looks env l) (env.look q))) he
    obtain ⟨hS, he2⟩ := okV_ok he
    subst hS
    obtain ⟨A, m, hm, hA, hl⟩ : ∃ A m, (args.map a.eval).toList = A :: m ∧ VR ρ (env.look q) A ∧ VsR ρ (looks env l) m := vl
    obtain ⟨B, hB, hr'⟩ := foldlM_minmax (P := P) (w := w) _ _ _ _ _ he2 hA hl
    refine ⟨rfl, B, ?_, hr'⟩
    rw [exec_builtin ho]
    cases mx with
    | true => simp only [if_true, builtin, Builtin.max_, hm] at hB ⊢; simp [hB]
    | false => simp only [if_false, builtin, Builtin.min_, hm, Bool.false_eq_true] at hB ⊢; simp [hB]

/-! building -/
theorem fold_set (off : Nat) : ∀ (vs : List Value) (k : Nat) (cs : Array Value), off + k + vs.length ≤ cs.size →
    ((vs.zipIdx k).foldl (fun cs p => cs.setIfInBounds (off + p.2) p.1) cs).toList = cs.toList.take (off + k) ++ vs ++ cs.toList.drop (off + k + vs.length)
  | [], k, cs, h => by simp
  | v :: vs, k, cs, h => by
    simp only [List.length_cons] at h
    rw [List.zipIdx_cons, List.foldl_cons, fold_set off vs (k + 1) _ (by simp; omega)]
    have hk : off + k < cs.size := by omega
    rw [Array.toList_setIfInBounds]
    have e1 : (cs.toList.set (off + k) v).take (off + (k + 1)) = cs.toList.take (off + k) ++ [v] := by
      rw [← Nat.add_assoc, List.take_set, List.take_succ_eq_append_getElem (by simpa using hk), List.set_append_right _ _ (by simp; omega)]
      simp [Nat.min_eq_left (Nat.le_of_lt hk)]
    have e2 : (cs.toList.set (off + k) v).drop (off + (k + 1) + vs.length) = cs.toList.drop (off + k + (v :: vs).length) := by
      rw [List.drop_set, if_pos (by omega)]
      congr 1
      simp only [List.length_cons]; omega
    rw [e1, e2]
    simp

theorem fill_cells (off : Nat) (v cs : Array Value) (h : off + v.size ≤ cs.size) :
    (v.zipIdx.foldl (fun cs (p : Value × Nat) => cs.setIfInBounds (off + p.2) p.1) cs).toList = cs.toList.take off ++ v.toList ++ cs.toList.drop (off + v.toList.length) := by
  rw [← Array.foldl_toList, Array.toList_zipIdx]
  simpa using fold_set off v.toList 0 cs (by simpa using h)

theorem fill_sound {place : Nat → Option (Nat × Nat)} {env : Env} {a : Act} (hen : EnvR ρ env a.tmps) {m : Nat} : ∀ (parts : List (Nat × Operand)) (ps : List (Nat × Nat × Opd)) (cells out : List V) (cs : Array Value),
    cParts place parts = some ps → VsR ρ cells cs.toList → (∀ c ∈ cells, c.one = true) → cells.length = m → fillL env m ps cells = some out →
    ∃ out', Instr.fill place cs (parts.map fun p => (p.1, a.eval p.2)) = some out' ∧ VsR ρ out out'.toList ∧ (∀ c ∈ out, c.one = true) ∧ out.length = m
  | [], ps, cells, out, cs, h, hv, h1, hl, hf => by
    cases h
    cases hf
    exact ⟨cs, rfl, hv, h1, hl⟩
  | (i, X) :: parts, ps, cells, out, cs, h, hv, h1, hl, hf => by
    obtain ⟨p, hp, h⟩ := obind_some (show obind (obind (place i) fun q => obind (cOpd X) fun y => some (q.1, q.2, y)) (fun b => obind (cParts place parts) fun bs => some (b :: bs)) = some ps from h)
    obtain ⟨ps', hps, h⟩ := obind_some h
    cases h
    obtain ⟨q, hq, hp⟩ := obind_some hp
    obtain ⟨y, hy, hp⟩ := obind_some hp
    cases hp
    have hf : bIf (band (env.look y).fits (band (Nat.beq (llen (env.look y).cells) q.2) (Nat.ble (Nat.add q.1 q.2) m))) (fillL env m ps' (lput (env.look y).cells cells q.1)) none = some out := hf
    obtain ⟨hc, hf⟩ := bIf_none hf
    obtain ⟨c1, c2, c3⟩ : (env.look y).fits = true ∧ (env.look y).cells.length = q.2 ∧ q.1 + q.2 ≤ m := by
      rw [llen_eq, natBeq_eq] at hc
      have := hc
      simp only [band_eq, Bool.and_eq_true, decide_eq_true_eq] at this
      exact ⟨this.1, this.2.1, Nat.le_of_ble_eq_true this.2.2⟩
    have vy := opd_sound hy hen
    obtain ⟨r1, r2⟩ := vy.cells c1
    have hlen := r1.length
    have hsz := hv.length
    have hle : q.1 + (a.eval X).cells.size ≤ cs.size := by simp at hlen hsz; omega
    have hput := fill_cells q.1 (a.eval X).cells cs hle
    have hv' : VsR ρ (lput (env.look y).cells cells q.1) (cs.toList.take q.1 ++ (a.eval X).cells.toList ++ cs.toList.drop (q.1 + (a.eval X).cells.toList.length)) := by
      rw [lput_eq _ _ _ (by omega)]
      exact hv.put r1 q.1
    rw [← hput] at hv'
    obtain ⟨out', g1, g2, g3, g4⟩ := fill_sound hen parts ps' _ out _ hps hv' (by
      intro c hc'
      rw [lput_eq _ _ _ (by omega)] at hc'
      simp only [List.mem_append] at hc'
      rcases hc' with (hc' | hc') | hc'
      · exact h1 c (List.mem_of_mem_take hc')
      · exact r2 c hc'
      · exact h1 c (List.mem_of_mem_drop hc')) (by rw [lput_length _ _ _ (by omega)]; exact hl) hf
    refine ⟨out', ?_, g2, g3, g4⟩
    have n1 : ¬ ((a.eval X).cells.size ≠ q.2 ∨ q.1 + (a.eval X).cells.size > cs.size) := by simp at hlen; omega
    rw [List.map_cons, Instr.fill, hq]
    simp only [n1, decide_eq_true_eq, Bool.or_eq_true, ↓reduceIte]
    simpa using g1

end Go.K

namespace Go.K
variable {cc : CC} {ρ ρ' ρ₁ : Rho} {S S' S₁ : St} {w w' w₁ : World} {P : Program} {o : Oper} {x y z : Opd} {X Y Z : Operand} {cx : Cx}

theorem omap_mapM {α β : Type} {f g : α → Option β} (hfg : ∀ a b, f a = some b → g a = some b) : ∀ {l : List α} {m : List β}, omap f l = some m → l.mapM g = some m
  | [], m, h => by cases h; rfl
  | a :: l, m, h => by
    obtain ⟨b, hb, h⟩ := obind_some (show obind (f a) (fun b => obind (omap f l) fun bs => some (b :: bs)) = some m from h)
    obtain ⟨bs, hbs, h⟩ := obind_some h
    cases h
    rw [List.mapM_cons, hfg a b hb, omap_mapM hfg hbs]
    rfl

theorem zerosN_some {t : TypeId} {n : Nat} {z : List V} (h : cx.zerosN t n = some z) : cx.zeros t = some z ∧ z.length = n := by
  obtain ⟨u, hu, h⟩ := obind_some h
  obtain ⟨hl, h⟩ := bIf_none (a := some u) h
  cases h
  rw [llen_eq, natBeq_eq] at hl
  exact ⟨hu, by simpa using hl⟩

theorem parts_map (a : Act) (parts : Array (Nat × Operand)) : (parts.map fun (i, x) => (i, a.eval x)).toList = parts.toList.map fun p => (p.1, a.eval p.2) := by
  rw [Array.toList_map]

theorem ok_build (hcx : CxT P cx) {t : TypeId} {parts : Array (Nat × Operand)} {z : List V} {ps : List (Nat × Nat × Opd)} {place : Nat → Option (Nat × Nat)} (ho : o.op = .build t parts) (hz : cx.zeros t = some z)
    (hps : cParts place parts.toList = some ps)
    (hd : (∃ fs pl, cx.und t = some (.struct fs) ∧ omap (fun f : Field => obind (cx.size f.type) fun s => some (f.offset, s)) fs.toList = some pl ∧ place = fun i => lget pl i) ∨
      (∃ n e s, cx.und t = some (.array n e) ∧ cx.size e = some s ∧ place = fun i => some (Nat.mul i s, s))) :
    OpOk cc P o (.build z ps) := .pure' fun env S v S' ρ a w he hr hen => by
  obtain ⟨cs, hcs, he⟩ := rbind_ok (f := fun cs => Res.ok (V.agg cs) S) he
  cases he
  obtain ⟨i, zv, h1, h2, h3, h4⟩ := zeros_sound hcx hz ρ
  obtain ⟨out, g1, g2, g3, g4⟩ := fill_sound hen parts.toList ps z cs zv.cells hps h3 h4 (llen_eq _).symm hcs
  refine ⟨rfl, .agg out, ?_, ⟨out, rfl, g2, g3⟩⟩
  have hb : P.built t (parts.map fun (i, x) => (i, a.eval x)).toList = some out := by
    rw [parts_map]
    unfold Program.built
    rcases hd with ⟨fs, pl, k1, k2, k3⟩ | ⟨n, e, s, k1, k2, k3⟩
    · have := omap_mapM (g := fun f : Field => (P.info? f.type).map fun i => (f.offset, i.size)) (fun f b hb => by
        obtain ⟨s, hs, hb⟩ := obind_some hb
        cases hb
        obtain ⟨j, j1, j2⟩ := hcx.size hs
        simp [j1, j2]) k2
      have hp : (fun x => pl.toArray[x]?) = place := by rw [k3]; funext i; rw [lget_eq]; simp
      simp only [h1, hcx.und k1, h2, this, hp, g1]
    · obtain ⟨j, j1, j2⟩ := hcx.size k2
      subst k3; subst j2
      simp only [h1, hcx.und k1, h2, j1]
      exact g1
  simp only [execOp, ho, Sem.run_bind, run_build w t _ out hb, Result.andThen_ok, Sem.run_pure]

theorem flatten_get {α : Type} (l : List α) : ∀ (n i : Nat), (List.replicate n l).flatten[i]? = if i < n * l.length then l[i % l.length]? else none
  | 0, i => by simp
  | n + 1, i => by
    rw [List.replicate_succ, List.flatten_cons, List.getElem?_append]
    by_cases h : i < l.length
    · rw [if_pos h, if_pos (by rw [Nat.succ_mul]; omega), Nat.mod_eq_of_lt h]
    · rw [if_neg h, flatten_get l n (i - l.length)]
      have e : (i - l.length) % l.length = i % l.length := (Nat.mod_eq_sub_mod (by omega)).symm
      rw [e, Nat.succ_mul]
      by_cases h' : i - l.length < n * l.length
      · rw [if_pos h', if_pos (by omega)]
      · rw [if_neg h', if_neg (by omega)]

theorem made_sound {z : List V} {zc : Array Value} (h : VsR ρ z zc.toList) (n : Nat) : VsR ρ (repl z n) (madeCells zc (n * z.length)).toList ∧ (repl z n).length = n * z.length := by
  have hl : zc.size = z.length := by simpa using h.length
  have hlen : (repl z n).length = n * z.length := by rw [repl_eq]; simp
  refine ⟨VsR.of_get (by rw [hlen]; simp [size_madeCells]) fun i v hv => ?_, hlen⟩
  rw [repl_eq, flatten_get] at hv
  split at hv
  · rename_i hi
    obtain ⟨a, ha1, ha2⟩ := h.get hv
    refine ⟨a, ?_, ha2⟩
    have : (madeCells zc (n * z.length))[i]? = some zc[i % zc.size]! := by
      unfold madeCells
      rw [Array.getElem?_map, Array.getElem?_range, if_pos hi]; rfl
    rw [Array.getElem?_toList, this, hl]
    rw [Array.getElem?_toList] at ha1
    rw [getElem!_def, ha1]
  · cases hv

theorem mem_repl {z : List V} (n : Nat) (h : ∀ c ∈ z, c.one = true) : ∀ c ∈ repl z n, c.one = true := fun c hc => by
  rw [repl_eq] at hc
  obtain ⟨l, hl, hc⟩ := List.mem_flatten.1 hc
  rw [List.eq_of_mem_replicate hl] at hc
  exact h c hc

theorem of_mem_repl {z : List V} {n : Nat} {c : V} (hc : c ∈ repl z n) : c ∈ z := by
  rw [repl_eq] at hc
  obtain ⟨l, hl, hc⟩ := List.mem_flatten.1 hc
  rw [List.eq_of_mem_replicate hl] at hc
  exact hc

theorem VR.slice_put {id : Pa} {L : Loc} {len : Nat} (hb : L.base = 0) : VR (ρ.put id L) (.slice id 0 len len) (.slice (some ⟨L.blk, 0, none⟩) len len) :=
  ⟨L, 0, len, Rho.put_same _ _ _, by rw [hb], Nat.le_refl _, .inl ⟨rfl, .inl rfl⟩⟩

theorem ok_buildSlice (hcx : CxT P cx) {t e : TypeId} {len s : Nat} {parts : Array (Nat × Operand)} {z : List V} {ps : List (Nat × Nat × Opd)} (ho : o.op = .buildSlice t len parts) (hd : cx.und t = some (.slice e))
    (hs : cx.size e = some s) (hz : cx.zerosN e s = some z) (hps : cParts (fun i => some (Nat.mul i s, s)) parts.toList = some ps) (hle : Nat.ble (Nat.mul len s) 65536 = true) :
    OpOk cc P o (.buildSlice len (Nat.mul len s) (repl z len) ps) := by
  intro env S v S' ρ a w he hr hen hf
  obtain ⟨cs, hcs, he⟩ := rbind_ok (f := fun cs => Res.ok (V.slice S.next 0 len len) (S.new (.cells (Nat.mul len s) cs 0))) he
  cases he
  obtain ⟨hz1, hz2⟩ := zerosN_some hz
  obtain ⟨i, zv, h1, h2, h3, h4⟩ := zeros_sound hcx hz1 ρ
  obtain ⟨j, j1, j2⟩ := hcx.size hs
  rw [h1] at j1; cases j1
  have hle' : len * s ≤ 65536 := Nat.le_of_ble_eq_true hle
  obtain ⟨m1, m2⟩ := made_sound h3 len
  rw [hz2] at m1 m2
  obtain ⟨out, g1, g2, g3, g4⟩ := fill_sound hen parts.toList ps (repl z len) cs (madeCells zv.cells (len * s)) hps m1 (mem_repl len h4) m2 hcs
  have hfree := fresh_next hf
  have hsim := sim_newCells hr hfree cs out e (Nat.mul len s) g4 1 g2 g3
  refine ⟨.value (.slice (some ⟨w.heap.size, 0, none⟩) len len), _, _, _, ?_, rfl, VR.slice_put (L := ⟨w.heap.size, 0, _, 0, 1⟩) rfl, hsim⟩
  subst j2
  have g1 : Instr.fill (fun k => some (k * i.size, i.size)) (madeCells zv.cells (len * i.size)) (List.map (fun p => (p.1, a.eval p.2)) parts.toList) = some out := g1
  have hrun : (Instr.buildSlice t len (parts.map fun (i, x) => (i, a.eval x))).run P w = .ok (.slice (some ⟨w.heap.size, 0, none⟩) len len) (w.alloc (.cells out e)) := by
    have hsmall : ¬ len * i.size > 2 ^ 24 := by omega
    unfold madeCells at g1
    by_cases hpos : len * i.size = 0
    · have hnil : Array.map (fun x => zv.cells[x % zv.cells.size]!) (Array.range (len * i.size)) = #[] := by rw [hpos, Array.range_zero']; simp
      rw [hnil] at g1
      simp only [Instr.buildSlice, Sem.run_bind, run_underlying (hcx.und hd), Result.andThen_ok, run_sizeOf' h1, hpos]
      have hnil2 : ∀ f : Nat → Value, Array.map f (Array.range 0) = #[] := fun f => by rw [Array.range_zero']; simp
      simp [hnil2, g1, newRow]
    · simp [Instr.buildSlice, run_underlying (hcx.und hd), run_sizeOf' h1, run_zeroValue' h1 h2, hsmall, hpos, g1, newRow]
  simp only [execOp, ho, Sem.run_bind, hrun, Result.andThen_ok, Sem.run_pure]

theorem zeroBlk_cases (zero : List V) (es n : Nat) : zeroBlk zero es n = .cells (Nat.mul n es) (repl zero n) 0 ∨ ∃ z, zero = [z] ∧ zeroBlk zero es n = .big n z .nil 0 := by
  unfold zeroBlk
  cases h : Nat.ble n 32 with
  | true => exact .inl rfl
  | false =>
    match zero with
    | [] => exact .inl rfl
    | [z] => exact .inr ⟨z, rfl, rfl⟩
    | a :: b :: l => exact .inl rfl

theorem get_nil {α : Type} : ∀ p : Pa, Tr.get (.nil : Tr α) p = none
  | .z => rfl
  | .l p => get_nil p
  | .r p => get_nil p

/-- a fresh row of one and the same cell -/
theorem sim_newBig (h : Rel cc ρ S w) (hfree : ρ S.next = none) (z : V) (c : Array Value) (e : TypeId) (n : Nat) (hn : c.size = n) (hv : ∀ (i : Nat) (v : Value), c[i]? = some v → VR ρ z v) (ho : z.one = true) :
    Sim cc ρ S w (ρ.put S.next ⟨w.heap.size, 0, n, 0, 1⟩) (S.new (.big n z .nil 0)) (w.alloc (.cells c e)) := by
  refine sim_new h hfree _ _ _ rfl ⟨trivial, rfl, .inl rfl, c, e, more_new w _, by simp [Loc.ext, hn], fun i hi => ?_⟩
  have hi' : i < c.size := by rw [hn]; exact hi
  refine ⟨z, c[i], ?_, ho, ?_, (hv i _ (by simp [hi'])).mono (Rho.le_put _ hfree)⟩
  · have : Nat.blt i n = true := Nat.ble_eq_true_of_le hi
    show bIf (Nat.blt i n) (some (optD z (Tr.get .nil (pa i)))) none = some z
    rw [this, get_nil]; rfl
  · simp [hi']

theorem ok_newBig (hcx : CxT P cx) {t : TypeId} {n : Nat} {z : V} {zs : List V} (ho : o.op = .alloc t) (hzs : cx.zeros t = some zs) (hall : lall (V.beq 10 z) zs = true) (hlen : zs.length = n) (hz1 : z.one = true) :
    OpOk cc P o (.newBig n z) := by
  intro env S v S' ρ a w he hr hen hf
  have he : Res.ok (V.ptr S.next 0) (S.new (.big n z .nil 0)) = .ok v S' := he
  cases he
  obtain ⟨i, zv, h1, h2, h3, h4⟩ := zeros_sound hcx hzs ρ
  have hfree := fresh_next hf
  have hall' := (lall_iff _ _).1 hall
  refine ⟨.value (.pointer (some ⟨w.heap.size, 0, none⟩)), w.alloc (.cells zv.cells t), _, _, ?_, rfl, VR.ptr_put (L := ⟨w.heap.size, 0, _, 0, 1⟩),
    sim_newBig hr hfree z zv.cells t n (by have := h3.length; simp at this; omega) (fun i v hv => ?_) hz1⟩
  · simp [execOp, ho, Instr.alloc, run_zeroValue' h1 h2, newVar, newRow, newObj]; rfl
  · have hi : i < zs.length := by
      have := h3.length
      have := (Array.getElem?_eq_some_iff.1 hv).1
      simp at *; omega
    obtain ⟨b, hb1, hb2⟩ := h3.get (List.getElem?_eq_getElem hi)
    have := V.beq_sound 10 _ _ (hall' _ (List.getElem_mem hi))
    rw [Array.getElem?_toList, hv] at hb1
    cases hb1
    rw [this]; exact hb2

theorem ok_mkSlice (hcx : CxT P cx) {t e : TypeId} {n b : Nat} {z : List V} (ho : o.op = .makeSlice t X Y) (hd : cx.und t = some (.slice e)) (hs : cx.size e = some n) (hb : cx.bytes e = some b) (hz : cx.zerosN e n = some z)
    (hx : cOpd X = some x) (hy : cOpd Y = some y) : OpOk cc P o (.mkSlice n b z x y) := by
  intro env S v S' ρ a w he hr hen hf
  obtain ⟨c, hc, he⟩ := rbind_ok (f := fun c => rbind (bound (env.look x) c) fun l =>
    bIf (Nat.ble (Nat.mul b c) 281474976710656) (Res.ok (V.slice S.next 0 l c) (S.new (zeroBlk z n c))) (.err 11)) he
  obtain ⟨l, hl, he⟩ := rbind_ok he
  obtain ⟨hle, he⟩ := bIf_err he
  cases he
  obtain ⟨kc, hlc, hc'⟩ := bound_ok hc
  obtain ⟨kl, hll, hl'⟩ := bound_ok hl
  have vx := opd_sound hx hen
  have vy := opd_sound hy hen
  rw [hll] at vx
  rw [hlc] at vy
  have vx : a.eval X = .int kl (l : Int) := vx
  have vy : a.eval Y = .int kc (c : Int) := vy
  obtain ⟨hz1, hz2⟩ := zerosN_some hz
  obtain ⟨i, zv, h1, h2, h3, h4⟩ := zeros_sound hcx hz1 ρ
  obtain ⟨j, j1, j2⟩ := hcx.size hs
  rw [h1] at j1; cases j1
  obtain ⟨j', j1', j2'⟩ := hcx.bytes hb
  rw [h1] at j1'; cases j1'
  subst j2; subst j2'
  have hle' : i.bytes * c ≤ 281474976710656 := Nat.le_of_ble_eq_true hle
  have hbc : (i.bytes : Int) * (c : Int) ≤ 281474976710656 := by
    have h : ((i.bytes * c : Nat) : Int) ≤ 281474976710656 := by omega
    rwa [Int.natCast_mul] at h
  have hrun := run_make (P := P) w t e i zv (hcx.und hd) h1 h2 kl kc (l : Int) (c : Int) (by omega) (by omega) hbc (by omega)
  simp only [Int.toNat_natCast] at hrun
  have hfree := fresh_next hf
  obtain ⟨m1, m2⟩ := made_sound h3 c
  rw [hz2] at m1 m2
  obtain ⟨L, hL1, hL2, hL3⟩ : ∃ L : Loc, L.blk = w.heap.size ∧ L.base = 0 ∧ Sim cc ρ S w (ρ.put S.next L) (S.new (zeroBlk z i.size c)) (w.alloc (.cells (madeCells zv.cells (c * i.size)) e)) := by
    rcases zeroBlk_cases z i.size c with h | ⟨u, hu, h⟩
    · rw [h]
      exact ⟨_, rfl, rfl, sim_newCells hr hfree (repl z c) _ e _ m2 1 m1 (mem_repl c h4)⟩
    · rw [h]
      subst hu
      have h1' : i.size = 1 := hz2.symm
      refine ⟨_, rfl, rfl, sim_newBig hr hfree u _ e c (by rw [size_madeCells, h1', Nat.mul_one]) (fun k v hv => ?_) (h4 u (by simp))⟩
      have hk : k < (repl [u] c).length := by
        have := (Array.getElem?_eq_some_iff.1 hv).1
        rw [size_madeCells] at this; omega
      obtain ⟨b, hb1, hb2⟩ := m1.get (List.getElem?_eq_getElem hk)
      rw [Array.getElem?_toList, hv] at hb1
      cases hb1
      have hu : (repl [u] c)[k] = u := by simpa using of_mem_repl (List.getElem_mem hk)
      rw [hu] at hb2; exact hb2
  refine ⟨.value (.slice (some ⟨w.heap.size, 0, none⟩) l c), _, _, _, ?_, rfl, ?_, hL3⟩
  · simp only [execOp, ho, vx, vy, Sem.run_bind, hrun, Result.andThen_ok, Sem.run_pure]
  · exact ⟨L, 0, c, Rho.put_same _ _ _, by rw [hL1, hL2], hl', .inl ⟨rfl, .inl rfl⟩⟩

theorem ok_mkMap (hcx : CxT P cx) {t : TypeId} {r : Option Operand} (ho : o.op = .makeMap t r) (hr' : r = none ∨ ∃ k n d e, r = some (.const (.int k n)) ∧ cx.und t = some (.map d e)) : OpOk cc P o .mkMap := by
  intro env S v S' ρ a w he hr hen hf
  have he : Res.ok (V.map S.next) (S.new (.map [] 0)) = .ok v S' := he
  cases he
  have hfree := fresh_next hf
  refine ⟨.value (.map (some w.heap.size)), w.alloc (.map #[] 0), _, _, ?_, rfl, ⟨⟨w.heap.size, 0, 0, 0, 1⟩, Rho.put_same _ _ _, rfl⟩, sim_new hr hfree _ _ _ rfl ⟨#[], more_new w _, rfl⟩⟩
  rcases hr' with rfl | ⟨k, n, d, e, rfl, hd⟩
  · simp [execOp, ho, Instr.makeMap, newObj]; rfl
  · simp [execOp, ho, Instr.makeMap, newObj, run_underlying (hcx.und hd), Act.eval, asInt, asIntOf]; rfl

theorem ok_rangeMap (hcx : CxT P cx) {t k e : TypeId} (ho : o.op = .range t X) (hd : cx.und t = some (.map k e)) (hx : cOpd X = some x) : OpOk cc P o (.rangeMap x) := by
  intro env S v S' ρ a w he hr hen hf
  have vx := opd_sound hx hen
  rcases onMap_ok (k := fun r => S.mapOf r fun _ clock => Res.ok (V.ptr S.next 0) (S.new (.mapIter (some r) clock [] clock))) he with ⟨hl, he⟩ | ⟨r, hl, he⟩
  · cases he
    rw [hl] at vx
    have vx : a.eval X = .map none := vx
    have hfree := fresh_next hf
    refine ⟨.value (.pointer (some ⟨w.heap.size, 0, none⟩)), w.alloc (.mapIter none 0 #[] 0), _, _, ?_, rfl, VR.ptr_put (L := ⟨w.heap.size, 0, 0, 0, 1⟩), sim_new hr hfree _ _ _ rfl ⟨none, more_new w _, rfl, rfl⟩⟩
    simp [execOp, ho, vx, Instr.range, run_underlying (hcx.und hd), newObj]; rfl
  · obtain ⟨es, clock, hS, he⟩ := mapOf_ok he
    cases he
    rw [hl] at vx
    obtain ⟨L, hL, vx⟩ := vx
    obtain ⟨es', h1, h2⟩ := hr.mapAt hL hS
    have hfree := fresh_next hf
    refine ⟨.value (.pointer (some ⟨w.heap.size, 0, none⟩)), w.alloc (.mapIter (some L.blk) clock #[] clock), _, _, ?_, rfl, VR.ptr_put (L := ⟨w.heap.size, 0, 0, 0, 1⟩),
      sim_new hr hfree _ _ _ rfl ⟨some L.blk, more_new w _, rfl, L, Rho.le_put _ hfree _ _ hL, rfl⟩⟩
    simp [execOp, ho, vx, Instr.range, run_underlying (hcx.und hd), newObj, run_getMap h1]; rfl

end Go.K

namespace Go.K
variable {cc : CC} {ρ ρ' ρ₁ : Rho} {S S' S₁ : St} {w w' w₁ : World} {P : Program} {o : Oper} {x y z : Opd} {X Y Z : Operand} {cx : Cx}

/-- a live row dies; a new one takes (a part of) its place -/
theorem sim_take (h : Rel cc ρ S w) {b : Pa} {L L' : Loc} {blk nb : Blk} {c c' : Array Value} {e : TypeId} (hL : ρ b = some L) (hS : S.get b = some blk) (hM : CellsR cc ρ L blk w c e) (hfree : ρ S.next = none)
    (hL' : L'.blk = L.blk) (hin : L.base ≤ L'.base ∧ L'.base + L'.ext ≤ L.base + L.ext) (hw' : w'.heap[L.blk]? = some (.cells c' e (0, 0))) (hcs : c'.size = c.size)
    (hout : ∀ k : Nat, ¬ (L.base ≤ k ∧ k < L.base + L.ext) → c'[k]? = c[k]?) (hother : ∀ j, j ≠ L.blk → w'.heap[j]? = w.heap[j]?)
    (hsz : w'.heap.size = w.heap.size) (hos : w'.os = w.os) (hou : w'.output = w.output) (htape : w'.tape = w.tape) (hnb : nb.isCells = true)
    (hb : BlkR cc (ρ.put S.next L') L' nb w') : Sim cc ρ S w (ρ.put S.next L') ((S.kill b).new nb) w' := by
  have hle := Rho.le_put L' hfree
  have hnext : (S.kill b).next = S.next := rfl
  have old : ∀ id M, (ρ.put S.next L') id = some M → id ≠ S.next → ρ id = some M := fun id M hM hne => by rwa [Rho.put_ne _ _ hne] at hM
  have get : ∀ id d, ((S.kill b).new nb).get id = some d → (id = S.next ∧ d = nb) ∨ (id ≠ S.next ∧ id ≠ b ∧ S.get id = some d) := fun id d hd => by
    by_cases e : id = S.next
    · subst e
      have := St.get_new_same (S.kill b) nb
      rw [hnext] at this
      rw [this] at hd
      exact .inl ⟨rfl, (Option.some.inj hd).symm⟩
    · rw [St.get_new_ne _ _ (by rw [hnext]; exact e), St.get_kill] at hd
      split at hd
      · cases hd
      · rename_i hne
        exact .inr ⟨e, Ne.symm hne, hd⟩
  refine ⟨by rw [St.next_new, Pa.toNat_succ, hnext]; omega, fun id hid => Rho.put_ne _ _ ?_, ⟨fun id M d h1 h2 => ?_, fun id id' M M' d d' hne h1 h1' h2 h2' hblk => ?_⟩, ⟨by rw [hsz]; exact Nat.le_refl _, hos, hou, htape, ?_, ?_, fun bk lp hob => ⟨lp, by rw [hother bk (fun e => by rw [e, hM.at'] at hob; cases hob)]; exact hob⟩, fun bk cA e' fz hob => ?_⟩, ?_, ?_⟩
  · intro e; subst e; rw [St.next_new, Pa.toNat_succ, hnext] at hid; omega
  · rcases get id d h2 with ⟨rfl, rfl⟩ | ⟨g1, g2, g3⟩
    · rw [Rho.put_same] at h1; cases h1; exact hb
    · have h1' := old id M h1 g1
      exact ((h.blk id M d h1' g3).mono hle).congr (hother _ (h.apart id b M L d blk g2 h1' hL g3 hS))
  · rcases get id d h2 with ⟨rfl, rfl⟩ | ⟨g1, g2, g3⟩
    · rcases get id' d' h2' with ⟨rfl, rfl⟩ | ⟨k1, k2, k3⟩
      · exact hne rfl
      · rw [Rho.put_same] at h1; cases h1
        exact h.apart b id' L M' blk d' (Ne.symm k2) hL (old _ _ h1' k1) hS k3 (hL' ▸ hblk)
    · rcases get id' d' h2' with ⟨rfl, rfl⟩ | ⟨k1, k2, k3⟩
      · rw [Rho.put_same] at h1'; cases h1'
        exact h.apart id b M L d blk g2 (old _ _ h1 g1) hL g3 hS (hL' ▸ hblk)
      · exact h.apart id id' M M' d d' hne (old _ _ h1 g1) (old _ _ h1' k1) g3 k3 hblk
  · intro bk ob hob hno
    by_cases eb : bk = L.blk
    · subst eb
      rw [hM.at'] at hob; cases hob
      rw [hw']
      have : c' = c := Array.ext hcs fun i hi1 hi2 => by
        have hk : ¬ (L.base ≤ i ∧ i < L.base + L.ext) := fun hk => hno i ⟨b, L, blk, hL, hS, rfl, fun _ => hk⟩
        have := hout i hk
        rw [Array.getElem?_eq_getElem hi1, Array.getElem?_eq_getElem hi2] at this
        exact Option.some.inj this
      rw [this]
    · rw [hother bk eb]; exact hob
  · intro bk cA e' fz hob
    by_cases eb : bk = L.blk
    · subst eb
      rw [hM.at'] at hob; cases hob
      exact ⟨c', hw', hcs, fun k hk => hout k fun hk' => hk ⟨b, L, blk, hL, hS, rfl, fun _ => hk'⟩⟩
    · exact ⟨cA, by rw [hother bk eb]; exact hob, rfl, fun _ _ => rfl⟩
  · by_cases eb : bk = L.blk
    · subst eb
      rw [hw'] at hob; cases hob
      exact .inl ⟨c, hM.at'⟩
    · rw [hother bk eb] at hob; exact .inl ⟨cA, hob⟩
  · intro bk k ⟨id, M, d, h1, h2, h3, h4⟩
    rcases get id d h2 with ⟨rfl, rfl⟩ | ⟨g1, g2, g3⟩
    · rw [Rho.put_same] at h1; cases h1
      have := h4 hnb
      exact .inl ⟨b, L, blk, hL, hS, by rw [← hL', h3], fun _ => by omega⟩
    · exact .inl ⟨id, M, d, old _ _ h1 g1, g3, h3, h4⟩
  · intro bk ⟨id, M, d, h1, h2, h3⟩
    rcases get id d h2 with ⟨rfl, rfl⟩ | ⟨g1, g2, g3⟩
    · rw [Rho.put_same] at h1; cases h1
      exact .inl ⟨b, L, blk, hL, hS, by rw [← hL', h3]⟩
    · exact .inl ⟨id, M, d, old _ _ h1 g1, g3, h3⟩

/-- a fresh row, some of whose cells are room -/
theorem sim_newRoom (h : Rel cc ρ S w) (hfree : ρ S.next = none) (l : List V) (c : Array Value) (e : TypeId) (n xx es : Nat) (hn : l.length = n) (hes : 0 < es) (hc : n + xx * es ≤ c.size)
    (hv : ∀ (i : Nat) (v : V), l[i]? = some v → ∃ u, c[i]? = some u ∧ VR ρ v u) (ho : ∀ v ∈ l, v.one = true) :
    Sim cc ρ S w (ρ.put S.next ⟨w.heap.size, 0, n, xx, es⟩) (S.new (.cells n l es)) (w.alloc (.cells c e)) := by
  refine sim_new h hfree _ _ _ rfl ⟨hn, rfl, .inr ⟨rfl, hes⟩, c, e, more_new w _, by simpa [Loc.ext] using hc, fun i hi => ?_⟩
  obtain ⟨v, h1, h2⟩ := lget_lt (l := l) (i := i) (by rw [hn]; exact hi)
  obtain ⟨a, h3, h4⟩ := hv i v h2
  exact ⟨v, a, h1, ho v (List.mem_of_getElem? h2), by simpa using h3, h4.mono (Rho.le_put _ hfree)⟩

/-- what is appended -/
structure ApX (P : Program) (w : World) (tys : Array TypeId) (i : TypeInfo) (zv : Value) (X : Value) (n : Nat) (news : List Value) : Prop where
  how : (∃ u d, tys[1]? = some u ∧ P.underlying u = some d ∧ (∀ k, d ≠ .int k) ∧ (Builtin.lenOf X).run P w = .ok n w ∧
      ∀ w' : World, w'.heap = w.heap → (Builtin.firstCells i.size n X).run P w' = .ok news.toArray w') ∨
    (∃ u k j, tys[1]? = some u ∧ P.underlying u = some (.int k) ∧ X = .int j (n : Int) ∧ n ≤ 281474976710656 ∧ n * i.bytes ≤ 281474976710656 ∧ zv.cells.size = i.size ∧ news = (Builtin.zeroCells zv.cells n).toList)

theorem run_append_in {tys : Array TypeId} {t ty e : TypeId} {i : TypeInfo} {zv X : Value} {n : Nat} {news : List Value} {args : Array Value} {base : Option Addr} {sLen sCap : Nat}
    (h0 : tys[0]? = some t) (ha : args[0]? = some (.slice base sLen sCap)) (hX : args[1]? = some X) (hd : P.underlying t = some (.slice e)) (hi : P.info? e = some i) (hz : i.zero = some zv)
    (hx : ApX P w tys i zv X n news) (hle : sLen + n ≤ sCap) :
    (Builtin.append_ tys ty args).run P w = ((match base with | some a => storeCells (a.add (sLen * i.size)) news | none => pure ()).run P w).andThen fun _ w' => .ok (.slice base (sLen + n) sCap) w' := by
  rcases hx.how with ⟨u, d, h1, h2, h3, h4, h5⟩ | ⟨u, k, j, h1, h2, h3, hle63, h4, h5, h6⟩
  · have hm : (match d with | .int _ => true | _ => false) = false := by cases d <;> first | rfl | exact absurd rfl (h3 _)
    have h5' := h5 w rfl
    cases base with
    | none => simp [Builtin.append_, h0, ha, hX, run_underlying hd, run_sizeOf' hi, h1, run_underlying h2, h4, hle, h5']
    | some a => simp [Builtin.append_, h0, ha, hX, run_underlying hd, run_sizeOf' hi, h1, run_underlying h2, h4, hle, h5']
  · subst h3; subst h6
    have wn : IntKind.i64.wrap (n : Int) = n := by rw [IntKind.wrap_i64]; omega
    have n1 : ¬ ((n : Int) < 0) := by omega
    have n2 : ¬ (281474976710656 < (n : Int) * (i.bytes : Int)) := by
      have : ((n * i.bytes : Nat) : Int) ≤ 281474976710656 := by omega
      rw [Int.natCast_mul] at this; omega
    have hz0 : n * i.size = 0 → Builtin.zeroCells zv.cells n = #[] := fun h0 => by
      have : (Builtin.zeroCells zv.cells n).size = 0 := by rw [size_zeroCells, h5]; exact h0
      exact Array.eq_empty_of_size_eq_zero this
    by_cases hzz : n * i.size = 0
    · cases base with
      | none => simp [Builtin.append_, h0, ha, hX, run_underlying hd, run_sizeOf' hi, h1, run_underlying h2, asInt, asIntOf, wn, n1, n2, run_typeInfo' hi, hle, hzz]
      | some a => simp [Builtin.append_, h0, ha, hX, run_underlying hd, run_sizeOf' hi, h1, run_underlying h2, asInt, asIntOf, wn, n1, n2, run_typeInfo' hi, hle, hzz, hz0 hzz]
    · cases base with
      | none => simp [Builtin.append_, h0, ha, hX, run_underlying hd, run_sizeOf' hi, h1, run_underlying h2, asInt, asIntOf, wn, n1, n2, run_typeInfo' hi, hle, run_zeroValue' hi hz]
      | some a => simp [Builtin.append_, h0, ha, hX, run_underlying hd, run_sizeOf' hi, h1, run_underlying h2, asInt, asIntOf, wn, n1, n2, run_typeInfo' hi, hle, hzz, run_zeroValue' hi hz]

theorem run_append_out {tys : Array TypeId} {t ty e : TypeId} {i : TypeInfo} {zv X : Value} {n : Nat} {news olds : List Value} {args : Array Value} {base : Option Addr} {sLen sCap : Nat}
    (h0 : tys[0]? = some t) (ha : args[0]? = some (.slice base sLen sCap)) (hX : args[1]? = some X) (hd : P.underlying t = some (.slice e)) (hi : P.info? e = some i) (hz : i.zero = some zv)
    (hx : ApX P w tys i zv X n news) (hgt : sCap < sLen + n) (hne : sLen + n ≤ 281474976710656) (hfit : Builtin.nextslicecap (sLen + n) sCap * i.bytes ≤ 281474976710656)
    (hold : (Builtin.firstCells i.size sLen (.slice base sLen sCap)).run P w.drew = .ok olds.toArray w.drew) :
    (Builtin.append_ tys ty args).run P w = .ok (.slice (some ⟨w.heap.size, 0, none⟩) (sLen + n) (grownCap w (sLen + n) sCap e))
        (w.drew.alloc (.cells (olds.toArray ++ news.toArray ++ Builtin.zeroCells zv.cells (grownCap w (sLen + n) sCap e - (sLen + n))) e)) := by
  have hn : ¬ (sLen + n ≤ sCap) := by omega
  have h63' : ¬ (9223372036854775807 < ((sLen : Int) + (n : Int))) := by omega
  have h48' : ¬ (281474976710656 < Builtin.nextslicecap (sLen + n) sCap * i.bytes) := by omega
  rcases hx.how with ⟨u, d, h1, h2, h3, h4, h5⟩ | ⟨u, k, j, h1, h2, h3, hle63, h4, h5, h6⟩
  · have hm : (match d with | .int _ => true | _ => false) = false := by cases d <;> first | rfl | exact absurd rfl (h3 _)
    have h5' := h5 w.drew rfl
    simp [Builtin.append_, h0, ha, hX, run_underlying hd, run_sizeOf' hi, h1, run_underlying h2, h4, hn, h63', h48', run_typeInfo' hi, Question.forced, hold, h5', run_zeroValue' hi hz, newRow, grownCap]
    congr 2
    apply Array.ext'
    simp [List.append_assoc]
  · subst h3; subst h6
    have wn : IntKind.i64.wrap (n : Int) = n := by rw [IntKind.wrap_i64]; omega
    have n1 : ¬ ((n : Int) < 0) := by omega
    have n2 : ¬ (281474976710656 < (n : Int) * (i.bytes : Int)) := by
      have : ((n * i.bytes : Nat) : Int) ≤ 281474976710656 := by omega
      rw [Int.natCast_mul] at this; omega
    have hz0 : n * i.size = 0 → Builtin.zeroCells zv.cells n = #[] := fun h0 => by
      have : (Builtin.zeroCells zv.cells n).size = 0 := by rw [size_zeroCells, h5]; exact h0
      exact Array.eq_empty_of_size_eq_zero this
    by_cases hzz : n * i.size = 0
    · simp [Builtin.append_, h0, ha, hX, run_underlying hd, run_sizeOf' hi, h1, run_underlying h2, asInt, asIntOf, wn, n1, n2, run_typeInfo' hi, hn, h63', h48', Question.forced, hold, hz0 hzz, run_zeroValue' hi hz, newRow, grownCap]
    · simp [Builtin.append_, h0, ha, hX, run_underlying hd, run_sizeOf' hi, h1, run_underlying h2, asInt, asIntOf, wn, n1, n2, run_typeInfo' hi, hn, h63', h48', Question.forced, hold, hzz, run_zeroValue' hi hz, newRow, grownCap]

end Go.K

namespace Go.K
variable {cc : CC} {ρ ρ' ρ₁ : Rho} {S S' S₁ : St} {w w' w₁ : World} {P : Program} {o : Oper} {x y z : Opd} {X Y Z : Operand} {cx : Cx}

theorem Sim.kill (h : Rel cc ρ S w) (b : Pa) : Sim cc ρ S w ρ (S.kill b) w :=
  ⟨Nat.le_refl _, fun _ _ => rfl, h.kill b, Frm.refl _ _ _, fun _ _ h => .inl h.of_kill, fun _ h => .inl h.of_kill⟩

theorem sizeOk_iff {es need bytes : Nat} (h : sizeOk es need bytes = true) : 1 ≤ es ∧ need ≤ 281474976710656 ∧ (2 * need + 1000) * bytes ≤ 281474976710656 := by
  unfold sizeOk at h
  simp only [band_eq, Bool.and_eq_true] at h
  exact ⟨Nat.le_of_ble_eq_true h.1, Nat.le_of_ble_eq_true h.2.1, Nat.le_of_ble_eq_true h.2.2⟩

theorem fit_of {es need bytes old : Nat} (h : sizeOk es need bytes = true) (hlt : old < need) : Builtin.nextslicecap need old * bytes ≤ 281474976710656 := by
  obtain ⟨_, _, h3⟩ := sizeOk_iff h
  refine Nat.le_trans (Nat.mul_le_mul_right _ ?_) h3
  have := nextslicecap_le hlt; omega

/-- a row grown into a fresh one -/
theorem grow_fresh (hr : Rel cc ρ S w) (hfree : ρ S.next = none) (all : List V) (alls : List Value) (rest : Array Value) (e : TypeId) (need es newCap : Nat) (hes : 0 < es) (hl : all.length = need * es) (hle : need ≤ newCap)
    (hv : VsR ρ all alls) (ho : ∀ v ∈ all, v.one = true) (hrest : rest.size = (newCap - need) * es) :
    Sim cc ρ S w (ρ.put S.next ⟨w.heap.size, 0, need * es, newCap - need, es⟩) (S.new (.cells (need * es) all es)) (w.drew.alloc (.cells (alls.toArray ++ rest) e)) ∧
      VR (ρ.put S.next ⟨w.heap.size, 0, need * es, newCap - need, es⟩) (.slice S.next 0 need need) (.slice (some ⟨w.heap.size, 0, none⟩) need newCap) := by
  have hlen := hv.length
  refine ⟨(show Sim cc ρ S w ρ S w.drew from Sim.same hr ⟨rfl, rfl, rfl, rfl⟩).trans (sim_newRoom (w := w.drew) (hr.congr rfl) hfree all _ e (need * es) (newCap - need) es hl hes ?_ (fun i v hi => ?_) ho), ?_⟩
  · simp; omega
  · obtain ⟨a, h1, h2⟩ := hv.get hi
    refine ⟨a, ?_, h2⟩
    have : i < alls.length := (List.getElem?_eq_some_iff.1 h1).1
    rw [Array.getElem?_append_left (by simpa using this)]
    simpa using h1
  · exact ⟨_, 0, newCap, Rho.put_same _ _ _, rfl, Nat.le_refl _, .inl ⟨rfl, .inr ⟨by simp, by show newCap = need + (newCap - need); omega⟩⟩⟩

theorem append_sound {tys : Array TypeId} {t ty e : TypeId} {i : TypeInfo} {zv X SL : Value} {args : Array Value} {n : Nat} {news : List Value} {new : List V} {slv v : V}
    (h0 : tys[0]? = some t) (hd : P.underlying t = some (.slice e)) (hi : P.info? e = some i) (hz : i.zero = some zv) (hzs : zv.cells.size = i.size)
    (ha : args[0]? = some SL) (hX : args[1]? = some X) (hx : ApX P w tys i zv X n news) (hnews : VsR ρ new news) (hone : ∀ v ∈ new, v.one = true) (hnl : new.length = n * i.size)
    (hr : Rel cc ρ S w) (hsl : VR ρ slv SL) (hf : Fresh S S' ρ) (he : appendV i.size i.bytes S n new slv = .ok v S') :
    ∃ w' ρ' v', (Builtin.append_ tys ty args).run P w = .ok v' w' ∧ VR ρ' v v' ∧ Sim cc ρ S w ρ' S' w' := by
  unfold appendV at he
  have hE := onSlice_ok he
  clear he
  rcases hE with ⟨hs, he⟩ | ⟨b, at_, len, cap, hs, he⟩
  · subst hs
    have hsl : SL = .slice none 0 0 := hsl
    subst hsl
    cases n with
    | zero =>
      cases he
      refine ⟨w, ρ, .slice none 0 0, ?_, rfl, Sim.refl hr⟩
      have := run_append_in (ty := ty) h0 ha hX hd hi hz hx (Nat.le_refl _)
      simpa using this
    | succ k =>
      obtain ⟨hsz, he⟩ := bIf_err (a := Res.ok (V.slice S.next 0 (k + 1) (k + 1)) (S.new (.cells (Nat.mul (k + 1) i.size) new i.size))) he
      cases he
      obtain ⟨s1, s2, s3⟩ := sizeOk_iff hsz
      have hrun := run_append_out (ty := ty) (olds := []) h0 ha hX hd hi hz hx (by omega) (by omega) (fit_of (by simpa using hsz) (by omega)) (run_firstCells_none _ _ _ _ _)
      have hge := grownCap_ge w (0 + (k + 1)) 0 e
      obtain ⟨g1, g2⟩ := grow_fresh hr (fresh_next hf) new news (Builtin.zeroCells zv.cells (grownCap w (0 + (k + 1)) 0 e - (0 + (k + 1)))) e (k + 1) i.size (grownCap w (0 + (k + 1)) 0 e) s1 hnl (by omega) hnews hone
        (by rw [size_zeroCells, hzs]; simp)
      refine ⟨_, ρ.put S.next ⟨w.heap.size, 0, (k + 1) * i.size, grownCap w (0 + (k + 1)) 0 e - (k + 1), i.size⟩, _, hrun, ?_, ?_⟩
      · simpa using g2
      · simpa using g1
  · subst hs
    obtain ⟨L, o', cap', hL, rfl, hlc, hcase⟩ := hsl
    have hcc : cap ≤ cap' := by rcases hcase with ⟨_, h | ⟨_, h⟩⟩ | ⟨h, _⟩ <;> omega
    have hnl' := hnews.length
    cases hle : Nat.ble (Nat.add len n) cap with
    | true =>
      rw [hle] at he
      obtain ⟨S₁, hw, he⟩ := rbind_ok (f := fun s => Res.ok (V.slice b at_ (Nat.add len n) cap) s) he
      cases he
      have hle' : len + n ≤ cap := Nat.le_of_ble_eq_true hle
      obtain ⟨blk, blk', hb, hwr, rfl⟩ := writeN_ok hw
      obtain ⟨c, ety, hM⟩ := hr.live hL hb (isCells_of_write hwr)
      have hrun := run_append_in (ty := ty) h0 ha hX hd hi hz hx (show len + n ≤ cap' by omega)
      obtain ⟨hsim, hst⟩ := hM.write (P := P) hr hL hb hwr hnl hnews hone
      by_cases ho' : o' = at_
      · subst ho'
        refine ⟨_, ρ, _, ?_, ⟨L, o', cap', hL, rfl, hle', hcase⟩, hsim⟩
        rw [hrun]
        have hst' : (storeCells { block := L.blk, off := L.base + (o' + len * i.size) } news).run P w = _ := hst
        show ((storeCells ((⟨L.blk, L.base + o', none⟩ : Addr).add (len * i.size)) news).run P w).andThen _ = _
        rw [add_none, Nat.add_assoc, hst']; rfl
      · have hc0 : cap = 0 := hcase.elim (fun h => absurd h.1 ho') (fun h => h.1)
        have hn0 : n = 0 := by omega
        subst hn0
        have hnil : news = [] := List.length_eq_zero_iff.1 (by rw [hnl', hnl]; simp)
        have hsame : (storeCells { block := L.blk, off := L.base + (at_ + len * i.size) } news).run P w = .ok () w := by rw [hnil]; simp [storeCells]
        have hst' : (storeCells { block := L.blk, off := L.base + (at_ + len * i.size) } news).run P w = _ := hst
        rw [hsame] at hst'
        injection hst' with _ hw
        rw [← hw] at hsim
        refine ⟨w, ρ, _, ?_, ⟨L, o', cap', hL, rfl, hle', hcase⟩, hsim⟩
        rw [hrun, hnil]
        simp [storeCells]
    | false =>
      rw [hle] at he
      have hgt : cap < len + n := by
        have : ¬ (Nat.add len n ≤ cap) := fun h => by rw [Nat.ble_eq_true_of_le h] at hle; cases hle
        exact Nat.lt_of_not_le this
      obtain ⟨blk, hb, he⟩ := rbind_ok he
      obtain ⟨old, hold, he⟩ := rbind_ok he
      obtain ⟨size, hsize, he⟩ := rbind_ok he
      obtain ⟨hok, he⟩ := bIf_err he
      cases he
      obtain ⟨hsz, hgr⟩ : sizeOk i.size (Nat.add len n) i.bytes = true ∧ grOk blk.gr i.size = true := by simpa using hok
      obtain ⟨s1, s2, s3⟩ := sizeOk_iff hsz
      have hbc := isCells_of_size hsize
      have hsp := spare_of (hr.blk _ _ _ hL hb) hbc hgr
      obtain ⟨c, ety, hM⟩ := hr.live hL hb hbc
      have hsize' : size = L.size := by have := hM.size; rw [hsize] at this; exact Option.some.inj this
      obtain ⟨l1, l2, l3, l4, l5⟩ := hM.list hold
      have hfree : ρ S.next = none := by
        refine hf S.next (Nat.le_refl _) ?_
        show S.next.toNat < Pa.toNat (Pa.succ (St.next _))
        rw [Pa.toNat_succ]
        cases (band (bnot (Nat.beq blk.gr 0)) (bor (Nat.beq cap 0) (Nat.beq (Nat.add at_ (Nat.mul cap i.size)) size))) <;> exact Nat.lt_succ_self _
      have hext : L.ext = L.size + L.x * L.es := rfl
      have hfit := hM.fits
      have hall : (lapp old new).length = (len + n) * i.size := by rw [lapp_eq, List.length_append, l1, hnl, Nat.add_mul]; rfl
      by_cases hin : len + n ≤ cap'
      · -- the room behind the row is there
        obtain ⟨hx0, hkill, hbase, hroom⟩ : 0 < L.x ∧ (band (bnot (Nat.beq blk.gr 0)) (bor (Nat.beq cap 0) (Nat.beq (Nat.add at_ (Nat.mul cap i.size)) size))) = true ∧ (o' = at_ ∨ (len = 0 ∧ o' = L.size)) ∧ o' + cap' * i.size ≤ L.size + L.x * L.es := by
          have hx0 : 0 < L.x := by rcases hcase with ⟨_, h | ⟨_, h⟩⟩ | ⟨h, _, h' | h'⟩ <;> omega
          have hes : L.es = i.size := hsp.elim (fun h => by omega) id
          have hg : blk.gr ≠ 0 := by rcases hM.grown with h | ⟨h, h'⟩ <;> omega
          have hg' : bnot (Nat.beq blk.gr 0) = true := by rw [natBeq_eq, decide_eq_false hg]; rfl
          refine ⟨hx0, ?_, ?_, ?_⟩
          · rw [hg']
            rcases hcase with ⟨_, h | ⟨h1, h⟩⟩ | ⟨h, _, h' | h'⟩
            · omega
            · have : Nat.beq (Nat.add at_ (Nat.mul cap i.size)) size = true := by rw [natBeq_eq, hsize']; exact decide_eq_true (by rw [← hes]; exact h1)
              rw [this]; cases (Nat.beq cap 0) <;> rfl
            · omega
            · have : Nat.beq cap 0 = true := by rw [natBeq_eq]; exact decide_eq_true h
              rw [this]; rfl
          · rcases hcase with ⟨h, _⟩ | ⟨h, h', _⟩
            · exact .inl h
            · exact .inr ⟨by omega, h'⟩
          · rcases hcase with ⟨h, h2 | ⟨h1, h2⟩⟩ | ⟨h, h1, h2 | h2⟩
            · omega
            · rw [h, h2, Nat.add_mul, hes]; rw [hes] at h1; omega
            · omega
            · rw [h1, h2, hes]; omega
        have hes : L.es = i.size := hsp.elim (fun h => by omega) id
        rw [hes] at hroom hext
        have hrun := run_append_in (ty := ty) h0 ha hX hd hi hz hx hin
        have hput : L.base + (o' + len * i.size) + news.length ≤ c.size := by
          have h1 : (len + n) * i.size ≤ cap' * i.size := Nat.mul_le_mul_right _ hin
          rw [Nat.add_mul] at h1
          omega
        obtain ⟨c', hc'⟩ : ∃ c', c' = (c.toList.take (L.base + (o' + len * i.size)) ++ news ++ c.toList.drop (L.base + (o' + len * i.size) + news.length)).toArray := ⟨_, rfl⟩
        have hstore := run_storeCells_at P L.blk (L.base + (o' + len * i.size)) ety news 0 c w hM.at' (by simpa using hput) (fun v hv' => by
          obtain ⟨j, hj, rfl⟩ := List.mem_iff_getElem.1 hv'
          have hj' : j < new.length := by omega
          obtain ⟨a, ha1, ha2⟩ := hnews.get (List.getElem?_eq_getElem hj')
          rw [List.getElem?_eq_getElem hj] at ha1; cases ha1
          exact ha2.oneCell (hone _ (List.getElem_mem hj')))
        have hstore' : (storeCells { block := L.blk, off := L.base + (o' + len * i.size) } news).run P w = .ok () (w.setRow L.blk c') := by rw [hc']; simpa using hstore
        have hset := setRow_heap w L.blk c c' ety (0, 0) hM.at'
        have hcs : c'.size = c.size := by rw [hc']; simp; omega
        have get : ∀ k : Nat, c'[k]? = if L.base + (o' + len * i.size) ≤ k ∧ k < L.base + (o' + len * i.size) + news.length then news[k - (L.base + (o' + len * i.size))]? else c[k]? := fun k => by
          have := lput_get c.toList (L.base + (o' + len * i.size)) news (by simpa using hput) k
          rw [lput_eq c.toList _ news (by simpa using hput)] at this
          rw [hc']
          simp only [List.getElem?_toArray, this, Array.getElem?_toList]
        have hle3 : (len + n) * i.size ≤ cap' * i.size := Nat.mul_le_mul_right _ hin
        have hsub : (len + n) * i.size + (cap' - (len + n)) * i.size = cap' * i.size := by rw [← Nat.add_mul]; congr 1; omega
        have hblk : BlkR cc (ρ.put S.next ⟨L.blk, L.base + o', (len + n) * i.size, cap' - (len + n), i.size⟩) ⟨L.blk, L.base + o', (len + n) * i.size, cap' - (len + n), i.size⟩ (.cells (Nat.mul (Nat.add len n) i.size) (lapp old new) i.size) (w.setRow L.blk c') := by
          refine ⟨hall, rfl, .inr ⟨rfl, s1⟩, c', ety, hset, ?_, fun k hk => ?_⟩
          · show L.base + o' + ((len + n) * i.size + (cap' - (len + n)) * i.size) ≤ c'.size
            rw [hcs, hsub]; omega
          · have hk : k < (len + n) * i.size := hk
            obtain ⟨u, hu1, hu2⟩ := lget_lt (l := lapp old new) (i := k) (by rw [hall]; exact hk)
            rw [Nat.add_mul] at hk
            rw [lapp_eq, List.getElem?_append, l1] at hu2
            have hmul : Nat.mul len i.size = len * i.size := rfl
            rw [hmul] at hu2
            refine ⟨u, ?_⟩
            by_cases hko : k < len * i.size
            · rw [if_pos hko] at hu2
              have hlen0 : 0 < len := Nat.pos_of_ne_zero fun h => by rw [h] at hko; omega
              have ho : o' = at_ := hbase.elim id (fun h => by omega)
              obtain ⟨a, ha1, ha2⟩ := l4.get hu2
              refine ⟨a, hu1, l5 u (List.mem_of_getElem? hu2), ?_, ha2.mono (Rho.le_put _ hfree)⟩
              rw [get, if_neg (by show ¬ (_ ≤ L.base + o' + k ∧ _); omega)]
              have ha1 : ((c.toList.drop (L.base + at_)).take (len * i.size))[k]? = some a := ha1
              rw [List.getElem?_take_of_lt hko, List.getElem?_drop, Array.getElem?_toList] at ha1
              show c[L.base + o' + k]? = some a
              rw [ho]; exact ha1
            · rw [if_neg hko] at hu2
              obtain ⟨a, ha1, ha2⟩ := hnews.get hu2
              refine ⟨a, hu1, hone u (List.mem_of_getElem? hu2), ?_, ha2.mono (Rho.le_put _ hfree)⟩
              rw [get, if_pos (by show _ ≤ L.base + o' + k ∧ L.base + o' + k < _; omega)]
              show news[L.base + o' + k - _]? = some a
              rw [show L.base + o' + k - (L.base + (o' + len * i.size)) = k - len * i.size by omega]; exact ha1
        have hsim := sim_take (w' := w.setRow L.blk c') (nb := .cells (Nat.mul (Nat.add len n) i.size) (lapp old new) i.size) hr hL hb hM hfree (L' := ⟨L.blk, L.base + o', (len + n) * i.size, cap' - (len + n), i.size⟩) rfl
          ⟨by show L.base ≤ L.base + o'; omega, by show L.base + o' + ((len + n) * i.size + (cap' - (len + n)) * i.size) ≤ _; rw [hsub]; omega⟩ hset hcs
          (fun k hk => by rw [get, if_neg]; intro hh; apply hk; rw [Nat.add_mul] at hle3; omega) (fun j hj => setRow_other w L.blk j _ hj) (setRow_size _ _ _) rfl rfl rfl rfl hblk
        rw [hkill]
        refine ⟨_, _, .slice (some ⟨L.blk, L.base + o', none⟩) (len + n) cap', ?_, ?_, hsim⟩
        · rw [hrun]
          show ((storeCells ((⟨L.blk, L.base + o', none⟩ : Addr).add (len * i.size)) news).run P w).andThen _ = _
          rw [add_none, Nat.add_assoc, hstore']; rfl
        · refine ⟨⟨L.blk, L.base + o', (len + n) * i.size, cap' - (len + n), i.size⟩, 0, cap', Rho.put_same _ _ _, rfl, Nat.le_refl _, .inl ⟨rfl, .inr ⟨by show 0 + (len + n) * i.size = _; simp, by show cap' = len + n + (cap' - (len + n)); omega⟩⟩⟩
      · -- a fresh row
        have hload : (Builtin.firstCells i.size len (.slice (some ⟨L.blk, L.base + o', none⟩) len cap')).run P w.drew = .ok ((c.toList.drop (L.base + at_)).take (len * i.size)).toArray w.drew := by
          have hM' : CellsR cc ρ L blk w.drew c ety := ⟨hM.wf, hM.size, hM.grown, hM.at', hM.fits, hM.each⟩
          by_cases ho : o' = at_
          · rw [ho]; exact hM'.run_load hold
          · have hc0 : cap = 0 := hcase.elim (fun h => absurd h.1 ho) (fun h => h.1)
            have : len = 0 := by omega
            subst this
            simp [Builtin.firstCells, loadCells, loadCellsFrom]
        have hrun := run_append_out (ty := ty) h0 ha hX hd hi hz hx (show cap' < len + n by omega) s2 (fit_of hsz (by show cap' < len + n; omega)) hload
        have hge := grownCap_ge w (len + n) cap' e
        have hnx : (bIf (band (bnot (Nat.beq blk.gr 0)) (bor (Nat.beq cap 0) (Nat.beq (Nat.add at_ (Nat.mul cap i.size)) size))) (S.kill b) S).next = S.next := by
          cases (band (bnot (Nat.beq blk.gr 0)) (bor (Nat.beq cap 0) (Nat.beq (Nat.add at_ (Nat.mul cap i.size)) size))) <;> rfl
        have hsk : Sim cc ρ S w ρ (bIf (band (bnot (Nat.beq blk.gr 0)) (bor (Nat.beq cap 0) (Nat.beq (Nat.add at_ (Nat.mul cap i.size)) size))) (S.kill b) S) w := by
          cases (band (bnot (Nat.beq blk.gr 0)) (bor (Nat.beq cap 0) (Nat.beq (Nat.add at_ (Nat.mul cap i.size)) size)))
          · exact Sim.refl hr
          · exact Sim.kill hr b
        obtain ⟨g1, g2⟩ := grow_fresh hsk.rel (by rw [hnx]; exact hfree) (lapp old new) ((c.toList.drop (L.base + at_)).take (len * i.size) ++ news) (Builtin.zeroCells zv.cells (grownCap w (len + n) cap' e - (len + n))) e (len + n) i.size
          (grownCap w (len + n) cap' e) s1 hall hge (by rw [lapp_eq]; exact l4.append hnews) (fun v hv => by rw [lapp_eq] at hv; exact (List.mem_append.1 hv).elim (l5 v) (hone v))
          (by rw [size_zeroCells, hzs])
        refine ⟨_, ρ.put S.next ⟨w.heap.size, 0, (len + n) * i.size, grownCap w (len + n) cap' e - (len + n), i.size⟩, _, hrun, ?_, hsk.trans ?_⟩
        · rw [hnx] at g2; exact g2
        · rw [hnx] at g1
          have e1 : ((c.toList.drop (L.base + at_)).take (len * i.size) ++ news).toArray = ((c.toList.drop (L.base + at_)).take (len * i.size)).toArray ++ news.toArray := by simp
          rw [e1] at g1
          exact g1

end Go.K

namespace Go.K
variable {cc : CC} {ρ ρ' ρ₁ : Rho} {S S' S₁ : St} {w w' w₁ : World} {P : Program} {o : Oper} {x y z : Opd} {X Y Z : Operand} {cx : Cx}

theorem args2 {args : Array Operand} {env : Env} {a : Act} (hen : EnvR ρ env a.tmps) (h : cOpds args = some [x, y]) :
    ∃ X Y, (args.map a.eval)[0]? = some X ∧ (args.map a.eval)[1]? = some Y ∧ VR ρ (env.look x) X ∧ VR ρ (env.look y) Y := by
  obtain ⟨X, m, hm, vx, hm2⟩ : ∃ X m, (args.map a.eval).toList = X :: m ∧ VR ρ (env.look x) X ∧ VsR ρ [env.look y] m := opds_sound h hen
  obtain ⟨Y, m', rfl, vy, _⟩ := hm2
  exact ⟨X, Y, by rw [← Array.getElem?_toList, hm]; rfl, by rw [← Array.getElem?_toList, hm]; rfl, vx, vy⟩

theorem args1 {args : Array Operand} {env : Env} {a : Act} (hen : EnvR ρ env a.tmps) (h : cOpds args = some [x]) :
    ∃ X, (args.map a.eval)[0]? = some X ∧ VR ρ (env.look x) X := by
  obtain ⟨X, m, hm, vx, hm2⟩ : ∃ X m, (args.map a.eval).toList = X :: m ∧ VR ρ (env.look x) X ∧ VsR ρ [] m := opds_sound h hen
  exact ⟨X, by rw [← Array.getElem?_toList, hm]; rfl, vx⟩

theorem strCells_rel {s : List Nat} {t : ByteArray} (h : s = t.data.toList.map (·.toNat)) (ρ : Rho) : VsR ρ (strCells s) ((t.data.map fun b => Value.int .u8 b.toNat).toList) ∧ (∀ v ∈ strCells s, v.one = true) ∧ (strCells s).length = s.length := by
  subst h
  unfold strCells
  rw [lmap_eq]
  refine ⟨?_, fun v hv => ?_, by simp⟩
  · rw [Array.toList_map]
    refine VsR.of_get (by simp) fun i v hv => ?_
    rw [List.getElem?_map, List.getElem?_map] at hv
    rw [List.getElem?_map]
    cases hb : t.data.toList[i]? with
    | none => rw [hb] at hv; cases hv
    | some b => rw [hb] at hv; cases hv; exact ⟨.int .u8 b.toNat, rfl, rfl⟩
  · obtain ⟨c, _, rfl⟩ := List.mem_map.1 hv
    rfl

theorem extract_all (t : ByteArray) : t.extract 0 t.size = t := by
  apply ByteArray.ext
  simp

theorem text_cells (t : ByteArray) (k size : Nat) (w : World) : (Builtin.firstCells size k (.string t)).run P w = .ok (((t.data.map fun b => Value.int .u8 b.toNat).toList).take k).toArray w := by
  have e1 : ((t.extract 0 k).data.map fun b => Value.int .u8 b.toNat) = (((t.data.map fun b => Value.int .u8 b.toNat).toList).take k).toArray := by
    apply Array.ext'
    simp [ByteArray.extract, ByteArray.copySlice]
  simp only [Builtin.firstCells]
  rw [e1]; rfl

/-- text, and what of it comes -/
theorem text_first {t : ByteArray} {s : List Nat} (h : s = t.data.toList.map (·.toNat)) (k : Nat) (size : Nat) (w : World) :
    ∃ news : List Value, (Builtin.firstCells size k (.string t)).run P w = .ok news.toArray w ∧ ∀ ρ, VsR ρ (ltk k (strCells s)) news := by
  refine ⟨((t.data.map fun b => Value.int .u8 b.toNat).toList).take k, text_cells _ _ _ _, fun ρ => ?_⟩
  · obtain ⟨h1, _, _⟩ := strCells_rel h ρ
    rw [ltk_eq]
    exact h1.take k

theorem firstCells_slice (hr : Rel cc ρ S w) {b : Pa} {at_ len cap es k : Nat} {V' : Value} {l : List V} (hv : VR ρ (.slice b at_ len cap) V') (hl : S.readN b at_ (Nat.mul k es) = some l) (hk : k ≤ len) :
    ∃ news : List Value, (∀ w' : World, w'.heap = w.heap → (Builtin.firstCells es k V').run P w' = .ok news.toArray w') ∧ VsR ρ l news ∧ (∀ v ∈ l, v.one = true) ∧ l.length = k * es := by
  obtain ⟨L, o', cap', hL, rfl, hlc, hcase⟩ := hv
  obtain ⟨blk, hb, hrd⟩ := readN_ok hl
  obtain ⟨c, e, hM⟩ := hr.live hL hb (isCells_of_read hrd)
  obtain ⟨l1, l2, l3, l4, l5⟩ := hM.list hrd
  refine ⟨(c.toList.drop (L.base + at_)).take (k * es), fun w' hw' => ?_, l4, l5, l1⟩
  have hM' : CellsR cc ρ L blk w' c e := ⟨hM.wf, hM.size, hM.grown, by rw [hw']; exact hM.at', hM.fits, hM.each⟩
  by_cases ho : o' = at_
  · rw [ho]; exact hM'.run_load hrd
  · have hc0 : cap = 0 := hcase.elim (fun h => absurd h.1 ho) (fun h => h.1)
    have : k = 0 := by omega
    subst this
    simp [Builtin.firstCells, loadCells, loadCellsFrom]

theorem ok_append (hcx : CxT P cx) {args : Array Operand} {tys : Array TypeId} {t e u : TypeId} {d : TypeDesc} {n b : Nat} {z : List V} (ho : o.op = .call { callee := .builtin .append, args, argTypes := tys })
    (h0 : tys[0]? = some t) (hd : cx.und t = some (.slice e)) (hn : cx.size e = some n) (hb : cx.bytes e = some b) (h1 : tys[1]? = some u) (hu : cx.und u = some d) (hnd : ∀ k, d ≠ .int k) (hz : cx.zerosN e n = some z)
    (hx : cOpds args = some [x, y]) : OpOk cc P o (.append n b x y) := by
  intro env S v S' ρ a w he hr hen hf
  obtain ⟨X, Y, hX, hY, vx, vy⟩ := args2 hen hx
  obtain ⟨hz1, hz2⟩ := zerosN_some hz
  obtain ⟨i, zv, i1, i2, i3, i4⟩ := zeros_sound hcx hz1 ρ
  have hzs : zv.cells.size = z.length := by simpa using i3.length
  obtain ⟨j, j1, j2⟩ := hcx.size hn
  rw [i1] at j1; cases j1
  obtain ⟨j', j1', j2'⟩ := hcx.bytes hb
  rw [i1] at j1'; cases j1'
  subst j2; subst j2'
  have fin : ∀ (m : Nat) (new : List V) (news : List Value), (Builtin.lenOf Y).run P w = .ok m w → (∀ w' : World, w'.heap = w.heap → (Builtin.firstCells i.size m Y).run P w' = .ok news.toArray w') → VsR ρ new news → (∀ v ∈ new, v.one = true) → new.length = m * i.size →
      appendV i.size i.bytes S m new (env.look x) = .ok v S' → ∃ nx w' ρ' v', (execOp a.eval o).run P w = .ok nx w' ∧ nextVal nx = some v' ∧ VR ρ' v v' ∧ Sim cc ρ S w ρ' S' w' := by
    intro m new news g1 g2 g3 g4 g5 g6
    obtain ⟨w', ρ', v', r1, r2, r3⟩ := append_sound (ty := o.type) h0 (hcx.und hd) i1 i2 (hzs.trans hz2) hX hY ⟨.inl ⟨u, d, h1, hcx.und hu, hnd, g1, g2⟩⟩ g3 g4 g5 hr vx hf g6
    refine ⟨.value v', w', ρ', v', ?_, rfl, r2, r3⟩
    rw [exec_builtin ho]
    simp [builtin, r1]
  rcases onText_ok he with ⟨s, hl, he⟩ | ⟨hl, he⟩ | ⟨b', o', l, c, hl, he⟩
  · obtain ⟨hes, he⟩ := bIf_err he
    rw [hl] at vy
    obtain ⟨T, rfl, hs⟩ := vy
    have hes : i.size = 1 := by rw [natBeq_eq] at hes; simpa using hes
    obtain ⟨q1, q2, q3⟩ := strCells_rel hs ρ
    refine fin (llen s) (strCells s) (((T.data.map fun b => Value.int .u8 b.toNat).toList).take s.length) ?_ (fun w' _ => ?_) ?_ q2 (by rw [q3, hes, llen_eq, Nat.mul_one]) he
    · simp [Builtin.lenOf, str_len hs]
    · rw [llen_eq]; exact text_cells _ _ _ _
    · have := q1.take s.length
      rw [← q3, List.take_length, q3] at this
      exact this
  · rw [hl] at vy
    have vy : Y = .slice none 0 0 := vy
    subst vy
    exact fin 0 [] [] (by simp [Builtin.lenOf]) (fun w' _ => by simp [Builtin.firstCells]) rfl (by simp) (by simp) he
  · obtain ⟨ll, hll, he⟩ := rbind_ok (f := fun l' => appendV i.size i.bytes S l l' (env.look x)) he
    rw [hl] at vy
    obtain ⟨news, g1, g2, g3, g4⟩ := firstCells_slice (P := P) hr vy hll (Nat.le_refl _)
    obtain ⟨L, _, _, _, rfl, _⟩ := vy
    exact fin l ll news (by simp [Builtin.lenOf]) g1 g2 g3 g4 he

theorem ok_appendZ (hcx : CxT P cx) {args : Array Operand} {tys : Array TypeId} {t e u : TypeId} {k : IntKind} {n b : Nat} {z : List V} (ho : o.op = .call { callee := .builtin .append, args, argTypes := tys })
    (h0 : tys[0]? = some t) (hd : cx.und t = some (.slice e)) (hn : cx.size e = some n) (hb : cx.bytes e = some b) (h1 : tys[1]? = some u) (hu : cx.und u = some (.int k)) (hz : cx.zerosN e n = some z)
    (hx : cOpds args = some [x, y]) : OpOk cc P o (.appendZ n b z x y) := by
  intro env S v S' ρ a w he hr hen hf
  obtain ⟨X, Y, hX, hY, vx, vy⟩ := args2 hen hx
  obtain ⟨hz1, hz2⟩ := zerosN_some hz
  obtain ⟨i, zv, i1, i2, i3, i4⟩ := zeros_sound hcx hz1 ρ
  have hzs : zv.cells.size = z.length := by simpa using i3.length
  obtain ⟨j, j1, j2⟩ := hcx.size hn
  rw [i1] at j1; cases j1
  obtain ⟨j', j1', j2'⟩ := hcx.bytes hb
  rw [i1] at j1'; cases j1'
  subst j2; subst j2'
  obtain ⟨m, hm, he⟩ := rbind_ok (f := fun m => bIf (Nat.ble (Nat.mul m i.bytes) 281474976710656) (appendV i.size i.bytes S m (repl z m) (env.look x)) (.err 43)) he
  obtain ⟨hle, he⟩ := bIf_err he
  obtain ⟨kk, hlm, hm'⟩ := bound_ok hm
  rw [hlm] at vy
  have vy : Y = .int kk (m : Int) := vy
  obtain ⟨m1, m2⟩ := made_sound i3 m
  have hle' : m * i.bytes ≤ 281474976710656 := Nat.le_of_ble_eq_true hle
  have e1 : madeCells zv.cells (m * z.length) = Builtin.zeroCells zv.cells m := by unfold madeCells Builtin.zeroCells; rw [hzs]
  rw [e1] at m1
  obtain ⟨w', ρ', v', r1, r2, r3⟩ := append_sound (ty := o.type) h0 (hcx.und hd) i1 i2 (hzs.trans hz2) hX hY ⟨.inr ⟨u, k, kk, h1, hcx.und hu, vy, hm', hle', hzs.trans hz2, rfl⟩⟩ m1 (mem_repl m i4) (by rw [m2, hz2]) hr vx hf he
  refine ⟨.value v', w', ρ', v', ?_, rfl, r2, r3⟩
  rw [exec_builtin ho]
  simp [builtin, r1]

/-- cells written where a slice says -/
theorem write_slice (hr : Rel cc ρ S w) {b : Pa} {at_ len cap k es : Nat} {L : Loc} {o' cap' : Nat} {vs : List V} {ws : List Value} (hL : ρ b = some L)
    (hcase : (o' = at_ ∧ (cap' = cap ∨ (at_ + cap * L.es = L.size ∧ cap' = cap + L.x))) ∨ (cap = 0 ∧ o' = L.size ∧ (cap' = 0 ∨ cap' = L.x))) (hlc : len ≤ cap) (hk : k ≤ len)
    (hw : S.writeN b at_ (Nat.mul k es) vs = some S₁) (hl : vs.length = k * es) (hv : VsR ρ vs ws) (h1 : ∀ v ∈ vs, v.one = true) :
    ∃ w', (storeCells ⟨L.blk, L.base + o', none⟩ ws).run P w = .ok () w' ∧ Sim cc ρ S w ρ S₁ w' := by
  obtain ⟨blk, blk', hb, hwr, rfl⟩ := writeN_ok hw
  obtain ⟨c, e, hM⟩ := hr.live hL hb (isCells_of_write hwr)
  obtain ⟨hsim, hst⟩ := hM.write (P := P) hr hL hb hwr hl hv h1
  by_cases ho' : o' = at_
  · subst ho'; exact ⟨_, hst, hsim⟩
  · have hc0 : cap = 0 := hcase.elim (fun h => absurd h.1 ho') (fun h => h.1)
    have hk0 : k = 0 := by omega
    subst hk0
    have hnil : ws = [] := List.length_eq_zero_iff.1 (by rw [hv.length, hl]; simp)
    subst hnil
    have hsame : (storeCells ⟨L.blk, L.base + at_, none⟩ []).run P w = .ok () w := by simp [storeCells]
    rw [hsame] at hst
    injection hst with _ hw
    rw [← hw] at hsim
    exact ⟨w, by simp [storeCells], hsim⟩

theorem ok_clearS (hcx : CxT P cx) {args : Array Operand} {tys : Array TypeId} {t e : TypeId} {n : Nat} {z : List V} (ho : o.op = .call { callee := .builtin .clear, args, argTypes := tys })
    (h0 : tys[0]? = some t) (hd : cx.und t = some (.slice e)) (hz : cx.zerosN e n = some z) (hx : cOpds args = some [x]) : OpOk cc P o (.clearS z x) := by
  intro env S v S' ρ a w he hr hen hf
  obtain ⟨X, hX, vx⟩ := args1 hen hx
  rcases onSlice_ok he with ⟨hl, he⟩ | ⟨b, at_, len, cap, hl, he⟩
  · cases he
    rw [hl] at vx
    have vx : X = .slice none 0 0 := vx
    subst vx
    refine ⟨.value (.tuple #[]), w, ρ, .tuple #[], ?_, rfl, ⟨#[], rfl, rfl⟩, Sim.refl hr⟩
    rw [exec_builtin ho]
    simp [builtin, Builtin.clear_, h0, hX, run_underlying (hcx.und hd)]
  · obtain ⟨S₁, hw, he⟩ := rbind_ok (f := fun s => Res.ok (V.tup []) s) he
    cases he
    rw [hl] at vx
    obtain ⟨L, o', cap', hL, rfl, hlc, hcase⟩ := vx
    obtain ⟨hz1, hz2⟩ := zerosN_some hz
    obtain ⟨i, zv, i1, i2, i3, i4⟩ := zeros_sound hcx hz1 ρ
    obtain ⟨m1, m2⟩ := made_sound i3 len
    have hzs : zv.cells.size = z.length := by simpa using i3.length
    have e1 : madeCells zv.cells (len * z.length) = Builtin.zeroCells zv.cells len := by unfold madeCells Builtin.zeroCells; rw [hzs]
    rw [e1] at m1
    rw [llen_eq] at hw
    obtain ⟨w', r1, r2⟩ := write_slice (P := P) hr hL hcase hlc (Nat.le_refl _) hw m2 m1 (mem_repl len i4)
    refine ⟨.value (.tuple #[]), w', ρ, .tuple #[], ?_, rfl, ⟨#[], rfl, rfl⟩, r2⟩
    rw [exec_builtin ho]
    cases len with
    | zero =>
      have hnil : (Builtin.zeroCells zv.cells 0).toList = [] := List.length_eq_zero_iff.1 (by simp [size_zeroCells])
      rw [hnil] at r1
      have hsame : (storeCells ⟨L.blk, L.base + o', none⟩ []).run P w = .ok () w := by simp [storeCells]
      rw [hsame] at r1
      injection r1 with _ hw'
      subst hw'
      simp [builtin, Builtin.clear_, h0, hX, run_underlying (hcx.und hd)]
    | succ len => simp [builtin, Builtin.clear_, h0, hX, run_underlying (hcx.und hd), run_zeroValue' i1 i2, r1]

theorem ok_copy (hcx : CxT P cx) {args : Array Operand} {tys : Array TypeId} {t e : TypeId} {n : Nat} (ho : o.op = .call { callee := .builtin .copy, args, argTypes := tys })
    (h0 : tys[0]? = some t) (hd : cx.und t = some (.slice e)) (hn : cx.size e = some n) (hx : cOpds args = some [x, y]) : OpOk cc P o (.copy n x y) := by
  intro env S v S' ρ a w he hr hen hf
  obtain ⟨X, Y, hX, hY, vx, vy⟩ := args2 hen hx
  obtain ⟨i, i1, i2⟩ := hcx.size hn
  subst i2
  rcases onSlice_ok he with ⟨hl, he⟩ | ⟨b, at_, len, cap, hl, he⟩
  · rw [hl] at vx
    have vx : X = .slice none 0 0 := vx
    subst vx
    have fin : ∀ m : Nat, (Builtin.lenOf Y).run P w = .ok m w → (Builtin.firstCells i.size 0 Y).run P w = .ok #[] w → Res.ok (V.int .i64 (.ofNat 0)) S = .ok v S' →
        ∃ nx w' ρ' v', (execOp a.eval o).run P w = .ok nx w' ∧ nextVal nx = some v' ∧ VR ρ' v v' ∧ Sim cc ρ S w ρ' S' w' := by
      intro m g1 g2 g3
      cases g3
      refine ⟨.value (.int .i64 0), w, ρ, .int .i64 0, ?_, rfl, rfl, Sim.refl hr⟩
      rw [exec_builtin ho]
      simp [builtin, Builtin.copy_, h0, hX, hY, run_underlying (hcx.und hd), run_sizeOf' i1, g1, g2, goInt]
    rcases onText_ok he with ⟨s, hly, he⟩ | ⟨hly, he⟩ | ⟨b', at', l, c, hly, he⟩
    · rw [hly] at vy
      obtain ⟨T, rfl, hs⟩ := vy
      refine fin T.size (by simp [Builtin.lenOf]) ?_ he
      rw [text_cells]; simp
    · rw [hly] at vy
      have vy : Y = .slice none 0 0 := vy
      subst vy
      exact fin 0 (by simp [Builtin.lenOf]) (by simp [Builtin.firstCells]) he
    · rw [hly] at vy
      obtain ⟨L', _, _, _, rfl, _⟩ := vy
      exact fin l (by simp [Builtin.lenOf]) (by simp [Builtin.firstCells, loadCells, loadCellsFrom]) he
  · have he : copyFrom i.size S (env.look y) b at_ len = .ok v S' := he
    rw [hl] at vx
    obtain ⟨L, o', cap', hL, rfl, hlc, hcase⟩ := vx
    have fin : ∀ (m k : Nat) (vs : List V) (ws : List Value), (Builtin.lenOf Y).run P w = .ok m w → k = Nat.min m len → (Builtin.firstCells i.size k Y).run P w = .ok ws.toArray w → VsR ρ vs ws → (∀ v ∈ vs, v.one = true) → vs.length = k * i.size →
        copyTo i.size S b at_ k vs = .ok v S' → ∃ nx w' ρ' v', (execOp a.eval o).run P w = .ok nx w' ∧ nextVal nx = some v' ∧ VR ρ' v v' ∧ Sim cc ρ S w ρ' S' w' := by
      intro m k vs ws g1 g2 g3 g4 g5 g6 g7
      obtain ⟨S₁, hw, g7⟩ := rbind_ok (f := fun s => Res.ok (V.int .i64 (.ofNat k)) s) g7
      cases g7
      have hk : k ≤ len := by rw [g2]; exact Nat.min_le_right _ _
      obtain ⟨w', r1, r2⟩ := write_slice (P := P) hr hL hcase hlc hk hw g6 g4 g5
      refine ⟨.value (.int .i64 (k : Int)), w', ρ, .int .i64 (k : Int), ?_, rfl, rfl, r2⟩
      rw [exec_builtin ho]
      subst g2
      simp [builtin, Builtin.copy_, h0, hX, hY, run_underlying (hcx.und hd), run_sizeOf' i1, g1, g3, r1, goInt]
    have hmin : ∀ p q, minN p q = Nat.min p q := fun p q => minN_eq p q
    rcases onText_ok he with ⟨s, hly, he⟩ | ⟨hly, he⟩ | ⟨b', at', l, c, hly, he⟩
    · obtain ⟨hes, he⟩ := bIf_err he
      rw [hly] at vy
      obtain ⟨T, rfl, hs⟩ := vy
      have hes : i.size = 1 := by rw [natBeq_eq] at hes; simpa using hes
      obtain ⟨q1, q2, q3⟩ := strCells_rel hs ρ
      rw [hmin, llen_eq, ltk_eq] at he
      refine fin s.length _ _ _ (by simp [Builtin.lenOf, str_len hs]) rfl (text_cells _ _ _ _) (q1.take _) (fun v hv => q2 v (List.mem_of_mem_take hv)) ?_ he
      have : Nat.min s.length len ≤ s.length := Nat.min_le_left _ _
      rw [List.length_take, q3, hes, Nat.mul_one]; omega
    · rw [hly] at vy
      have vy : Y = .slice none 0 0 := vy
      subst vy
      exact fin 0 0 [] [] (by simp [Builtin.lenOf]) (by simp) (by simp [Builtin.firstCells]) rfl (by simp) (by simp) he
    · obtain ⟨ll, hll, he⟩ := rbind_ok (f := fun l' => copyTo i.size S b at_ (minN l len) l') he
      rw [hly] at vy
      rw [hmin] at he hll
      obtain ⟨news, g1, g2, g3, g4⟩ := firstCells_slice (P := P) hr vy hll (Nat.min_le_left _ _)
      obtain ⟨L', _, _, _, rfl, _⟩ := vy
      exact fin l _ ll news (by simp [Builtin.lenOf]) rfl (g1 w rfl) g2 g3 g4 he

end Go.K

namespace Go.K
variable {cc : CC} {ρ ρ' ρ₁ : Rho} {S S' S₁ : St} {w w' w₁ : World} {P : Program} {o : Oper} {x y z : Opd} {X Y Z : Operand} {cx : Cx}

/-! keys -/
def leafV (v : V) : Prop := match v with
  | .bool _ => True
  | .int _ _ => True
  | .str _ => True
  | .ptr _ _ => True
  | .nilptr => True
  | _ => False

def keyV (v : V) : Prop := leafV v ∨ ∃ cs, v = .agg cs ∧ ∀ c ∈ cs, leafV c

theorem eqLeaf_true {e : ETy} {u v : V} (hk : keyLeaf e = true) (h : eqLeaf S e u v = some true) : u = v ∧ leafV u := by
  cases e with
  | bool =>
    obtain ⟨a, rfl, h⟩ := bBool_some (show bBool u (fun a => bBool v fun b => some (beqBool a b)) = some true from h)
    obtain ⟨b, rfl, h⟩ := bBool_some h
    exact ⟨by rw [beqBool_iff (Option.some.inj h)], trivial⟩
  | int =>
    obtain ⟨i, a, rfl, h⟩ := bInt_some (show bInt u (fun k a => bInt v fun j b => bIf (beqKind k j) (some (beqInt a b)) none) = some true from h)
    obtain ⟨j, b, rfl, h⟩ := bInt_some h
    obtain ⟨hk, h⟩ := bIf_none (a := some (beqInt a b)) h
    have h2 : a = b := by have := Option.some.inj h; simpa using this
    exact ⟨by rw [(beqKind_eq _ _).1 hk, h2], trivial⟩
  | str =>
    obtain ⟨a, rfl, h⟩ := bStr_some (show bStr u (fun s => bStr v fun t => some (beqList Nat.beq s t)) = some true from h)
    obtain ⟨b, rfl, h⟩ := bStr_some h
    have := Option.some.inj h
    rw [beqNats_eq] at this
    exact ⟨by rw [show a = b by simpa using this], trivial⟩
  | ptr =>
    have h : eqPtr S u v = some true := h
    cases u with
    | nilptr => cases v with
      | nilptr => exact ⟨rfl, trivial⟩
      | ptr _ _ => cases h
      | _ => cases h
    | ptr p i => cases v with
      | nilptr => cases h
      | ptr q j =>
        have h : bIf (band (S.live p) (S.live q)) (some (band (Pa.beq p q) (Nat.beq i j))) none = some true := h
        obtain ⟨_, h⟩ := bIf_none h
        obtain ⟨h1, h2⟩ : Pa.beq p q = true ∧ Nat.beq i j = true := by simpa using Option.some.inj h
        exact ⟨by rw [(Pa.beq_iff _ _).1 h1, Nat.eq_of_beq_eq_true h2], trivial⟩
      | _ => cases h
    | _ => cases h
  | _ => cases hk

theorem eqCells_true : ∀ (l : List ETy) (xs ys : List V), (∀ e ∈ l, keyLeaf e = true) → eqCells S l xs ys = some true → xs = ys ∧ ∀ c ∈ xs, leafV c
  | [], xs, ys, _, h => by obtain ⟨_, rfl, rfl⟩ := eqCells_nil h; exact ⟨rfl, fun c hc => by cases hc⟩
  | e :: l, [], ys, _, h => by cases h
  | e :: l, x :: xs, [], _, h => by cases h
  | e :: l, x :: xs, y :: ys, hk, h => by
    rw [eqCells_cons] at h
    obtain ⟨b, hb, h⟩ := obind_some h
    cases b with
    | false => cases h
    | true =>
      obtain ⟨h1, h2⟩ := eqLeaf_true (hk e (by simp)) hb
      obtain ⟨h3, h4⟩ := eqCells_true l xs ys (fun e' he' => hk e' (by simp [he'])) h
      refine ⟨by rw [h1, h3], fun c hc => ?_⟩
      rcases List.mem_cons.1 hc with rfl | hc
      · exact h2
      · exact h4 c hc

theorem kTy_some {t : TypeId} {e : ETy} (h : cx.kTy t = some e) : cx.eTy t = some e ∧ ((∃ l, e = .cells l ∧ ∀ a ∈ l, keyLeaf a = true) ∨ (keyLeaf e = true ∧ ∀ l, e ≠ .cells l)) := by
  obtain ⟨a, ha, h⟩ := obind_some h
  cases a with
  | cells l =>
    obtain ⟨h1, h⟩ := bIf_none (a := some (ETy.cells l)) h
    cases h
    exact ⟨ha, .inl ⟨l, rfl, (lall_iff _ _).1 h1⟩⟩
  | _ =>
    obtain ⟨h1, h⟩ := bIf_none (a := some _) h
    cases h
    exact ⟨ha, .inr ⟨h1, fun l hl => by cases hl⟩⟩

theorem eqV_leaf {e : ETy} (hne : ∀ l, e ≠ .cells l) (u v : V) : eqV S e u v = eqLeaf S e u v := by
  cases e with
  | cells l => exact absurd rfl (hne l)
  | _ => rfl

theorem eqV_true {t : TypeId} {e : ETy} (hk : cx.kTy t = some e) {u v : V} (h : eqV S e u v = some true) : u = v ∧ keyV u := by
  obtain ⟨_, ⟨l, rfl, hl⟩ | ⟨hl, hne⟩⟩ := kTy_some hk
  · obtain ⟨xs, ys, rfl, rfl, h⟩ := eqAgg_some (show eqAgg l S u v = some true from h)
    obtain ⟨h1, h2⟩ := eqCells_true l xs ys hl h
    exact ⟨by rw [h1], .inr ⟨xs, rfl, h2⟩⟩
  · rw [eqV_leaf hne] at h
    obtain ⟨h1, h2⟩ := eqLeaf_true hl h
    exact ⟨h1, .inl h2⟩

theorem leaf_det {u : V} {U W : Value} (hl : leafV u) (h1 : VR ρ u U) (h2 : VR ρ u W) : U = W := by
  cases u with
  | bool _ => exact (show U = _ from h1).trans (show W = _ from h2).symm
  | int _ _ => exact (show U = _ from h1).trans (show W = _ from h2).symm
  | nilptr => exact (show U = _ from h1).trans (show W = _ from h2).symm
  | str s =>
    obtain ⟨a, rfl, ha⟩ := h1
    obtain ⟨b, rfl, hb⟩ := h2
    have := map_toNat_inj (ha.symm.trans hb)
    cases a; cases b; simp at this; rw [this]
  | ptr p i =>
    obtain ⟨L, hL, rfl⟩ := h1
    obtain ⟨M, hM, rfl⟩ := h2
    rw [hL] at hM; cases hM; rfl
  | _ => exact absurd hl id

theorem leaves_det : ∀ {vs : List V} {l m : List Value}, (∀ c ∈ vs, leafV c) → VsR ρ vs l → VsR ρ vs m → l = m
  | [], _, _, _, h1, h2 => (show _ = [] from h1).trans (show _ = [] from h2).symm
  | v :: vs, _, _, hl, ⟨a, m, e, r, rs⟩, ⟨a', m', e', r', rs'⟩ => by
    subst e; subst e'
    rw [leaf_det (hl v (by simp)) r r', leaves_det (fun c hc => hl c (by simp [hc])) rs rs']

theorem key_det {u : V} {U W : Value} (hk : keyV u) (h1 : VR ρ u U) (h2 : VR ρ u W) : U = W := by
  rcases hk with hl | ⟨cs, rfl, hl⟩
  · exact leaf_det hl h1 h2
  · obtain ⟨a, rfl, ra, _⟩ := h1
    obtain ⟨b, rfl, rb, _⟩ := h2
    rw [Array.ext' (leaves_det hl ra rb)]

theorem leaf_bits {u : V} {U : Value} (hl : leafV u) (h : VR ρ u U) (n : Nat) : Instr.sameBits n U U = true := by
  cases u with
  | bool _ => rw [show U = _ from h]; cases n <;> simp [Instr.sameBits]
  | int _ _ => rw [show U = _ from h]; cases n <;> simp [Instr.sameBits]
  | nilptr => rw [show U = _ from h]; cases n <;> simp [Instr.sameBits]
  | str s => obtain ⟨a, rfl, ha⟩ := h; cases n <;> simp [Instr.sameBits, bytes_beq]
  | ptr p i => obtain ⟨L, hL, rfl⟩ := h; cases n <;> simp [Instr.sameBits]
  | _ => exact absurd hl id

theorem leaves_bits (n : Nat) : ∀ {vs : List V} {l : List Value}, (∀ c ∈ vs, leafV c) → VsR ρ vs l → ((l.zip l).all fun p => Instr.sameBits n p.1 p.2) = true
  | [], _, _, h => by rw [show _ = [] from h]; rfl
  | v :: vs, _, hl, ⟨a, m, e, r, rs⟩ => by
    subst e
    rw [List.zip_cons_cons, List.all_cons, leaf_bits (hl v (by simp)) r, leaves_bits n (fun c hc => hl c (by simp [hc])) rs]; rfl

theorem key_bits {u : V} {U : Value} (hk : keyV u) (h : VR ρ u U) (n : Nat) : Instr.sameBits (n + 1) U U = true := by
  rcases hk with hl | ⟨cs, rfl, hl⟩
  · exact leaf_bits hl h _
  · obtain ⟨a, rfl, ra, _⟩ := h
    have := leaves_bits n hl ra
    simp only [Instr.sameBits, beq_self_eq_true, Bool.true_and]
    exact this

/-! the check on a key -/
theorem check_leaf {t : TypeId} {e : ETy} (hcx : CxT P cx) (he : cx.eTy t = some e) (hk : keyLeaf e = true) (U : Value) (em : Bool) (n : Nat) : (Instr.checkKey em (n + 1) t U).run P w = .ok () w := by
  obtain ⟨d, hd, h⟩ := obind_some he
  have hund := run_underlying (hcx.und hd) w
  cases d with
  | bool => simp [Instr.checkKey, hund]
  | int k => simp [Instr.checkKey, hund]
  | string => simp [Instr.checkKey, hund]
  | pointer q => simp [Instr.checkKey, hund]
  | slice _ => cases h; cases hk
  | map _ _ => cases h; cases hk
  | func _ _ _ => cases h; cases hk
  | interface _ => cases h; cases hk
  | struct _ => obtain ⟨_, _, h⟩ := obind_some h; cases h; cases hk
  | array _ _ => obtain ⟨_, _, h⟩ := obind_some h; cases h; cases hk
  | _ => cases h

theorem check_ok (hcx : CxE P cx) {t : TypeId} {e : ETy} (hk : cx.kTy t = some e) {u : V} {U : Value} (hu : VR ρ u U) (hf : keyFits e u = true) (em : Bool) (n : Nat) :
    (Instr.checkKey em (n + 2) t U).run P w = .ok () w := by
  obtain ⟨he, ⟨l, rfl, hl⟩ | ⟨hl, hne⟩⟩ := kTy_some hk
  · obtain ⟨cs, rfl, hcs⟩ : ∃ cs, u = .agg cs ∧ cs.length = l.length := by
      have hf : aggLen (llen l) u = true := hf
      cases u with
      | agg cs =>
        have hf : Nat.beq (llen cs) (llen l) = true := hf
        rw [llen_eq, llen_eq, natBeq_eq] at hf
        exact ⟨cs, rfl, by simpa using hf⟩
      | _ => cases hf
    obtain ⟨A, rfl, hA, _⟩ := hu
    have hsz := hA.length
    have hq := eTy_cells hcx he
    rw [show n + 2 = (n + 1) + 1 from rfl, Instr.checkKey]
    rcases hq.kind with ⟨fs, k1, k2, k3, k4⟩ | ⟨m, el, ety, k1, k2, k3, k4, k5⟩
    · simp only [Sem.run_bind, run_underlying k1, Result.andThen_ok]
      rw [← Array.forIn_toList]
      have each : ∀ f ∈ fs.toList, f.name ≠ "_" ∧ ∃ v, (part f.type A f.offset).run P w = .ok v w ∧ (Instr.checkKey em (n + 1) f.type v).run P w = .ok () w := fun f hf => by
        obtain ⟨i, hi, rfl⟩ := List.mem_iff_getElem.1 hf
        have hi' : i < fs.size := by simpa using hi
        obtain ⟨g1, g2, g3, g4⟩ := k4 i fs[i] (Array.getElem?_eq_getElem hi')
        have hil : i < l.length := by omega
        refine ⟨by simpa using g1, A[i]'(by simp at hsz; omega), ?_, ?_⟩
        · rw [show (fs.toList[i]) = fs[i] by simp, g2]
          exact part_one hcx.toCxT g3 (by simp)
        · rw [List.getElem?_eq_getElem hil] at g4
          rw [show (fs.toList[i]) = fs[i] by simp]
          exact check_leaf hcx.toCxT g4 (hl _ (List.getElem_mem hil)) _ em n
      generalize fs.toList = F at each
      induction F with
      | nil => simp
      | cons f F ih =>
        obtain ⟨hn, v, p1, p2⟩ := each f (by simp)
        simp only [List.forIn_cons, Sem.run_bind, hn, ne_eq, not_false_eq_true, if_true, Result.andThen_ok, p1, p2, Sem.run_pure]
        exact ih (fun y hy => each y (by simp [hy]))
    · simp only [Sem.run_bind, run_underlying k1, Result.andThen_ok]
      simp only [Std.Legacy.Range.forIn_eq_forIn_range', Std.Legacy.Range.size, Nat.sub_zero, Nat.add_one_sub_one, Nat.div_one]
      obtain ⟨i, hi1, hi2⟩ := hcx.size k2
      have each : ∀ j ∈ List.range' 0 m, ∃ v, (part el A (j * 1)).run P w = .ok v w ∧ (Instr.checkKey em (n + 1) el v).run P w = .ok () w := fun j hj => by
        have hj' : j < m := by simp [List.mem_range'_1] at hj; omega
        have hsz' : A.size = m := by rw [k5] at hcs; simp at hsz hcs; omega
        refine ⟨A[j], ?_, ?_⟩
        · rw [Nat.mul_one]; exact part_one hcx.toCxT k3 (by simp)
        · refine check_leaf hcx.toCxT k4 (hl ety ?_) _ em n
          rw [k5]
          exact List.mem_replicate.2 ⟨by omega, rfl⟩
      generalize List.range' 0 m = F at each
      induction F with
      | nil => simp
      | cons j F ih =>
        obtain ⟨v, p1, p2⟩ := each j (by simp)
        simp only [List.forIn_cons, Sem.run_bind, run_sizeOf' hi1, hi2, Result.andThen_ok, p1, p2, Sem.run_pure]
        exact ih (fun y hy => each y (by simp [hy]))
  · exact check_leaf hcx.toCxT he hl U em (n + 1)

/-! entries -/
theorem EntsR.get : ∀ {l : List Ent} {m : List MapEntry}, EntsR ρ l m → ∀ {i : Nat} {x : Ent}, l[i]? = some x → ∃ e, m[i]? = some e ∧ EntR ρ x e
  | [], _, _, i, x, h => by simp at h
  | _ :: _, _, ⟨e, m, he, hr, hs⟩, i, x, h => by
    subst he
    cases i with
    | zero => simp at h; subst h; exact ⟨e, rfl, hr⟩
    | succ i => simp at h; simpa using EntsR.get hs h

theorem EntsR.append : ∀ {l : List Ent} {m : List MapEntry} {l' : List Ent} {m' : List MapEntry}, EntsR ρ l m → EntsR ρ l' m' → EntsR ρ (l ++ l') (m ++ m')
  | [], _, _, _, h, h' => by rw [show _ = [] from h]; exact h'
  | _ :: _, _, _, _, ⟨e, m, he, hr, hs⟩, h' => by subst he; exact ⟨e, m ++ _, rfl, hr, EntsR.append hs h'⟩

theorem EntsR.set {k v : V} {f : MapEntry → MapEntry} : ∀ {l : List Ent} {m : List MapEntry}, EntsR ρ l m → ∀ {i : Nat}, (∀ x e, l[i]? = some x → EntR ρ x e → m[i]? = some e → EntR ρ ⟨k, v, x.born⟩ (f e)) → EntsR ρ (setEnt k v l i) (m.modify i f)
  | [], _, h, i, _ => by rw [show _ = [] from h]; cases i <;> rfl
  | x :: l, _, ⟨e, m, he, hr, hs⟩, i, hf => by
    subst he
    cases i with
    | zero => exact ⟨f e, m, by simp, hf x e rfl hr rfl, hs⟩
    | succ i =>
      refine ⟨e, m.modify i f, by simp, hr, EntsR.set hs fun x' e' h1 h2 h3 => hf x' e' (by simpa using h1) h2 (by simpa using h3)⟩

theorem EntsR.del : ∀ {l : List Ent} {m : List MapEntry}, EntsR ρ l m → ∀ {i : Nat}, EntsR ρ (delEnt l i) (m.eraseIdx i)
  | [], _, h, i => by rw [show _ = [] from h]; cases i <;> rfl
  | x :: l, _, ⟨e, m, he, hr, hs⟩, i => by
    subst he
    cases i with
    | zero => exact hs
    | succ i => exact ⟨e, m.eraseIdx i, by simp, hr, EntsR.del hs⟩

/-- what the search for a key brings -/
def FR (ρ : Rho) (u : V) (es : List Ent) (i : Nat) (r : Option (Nat × V)) (r' : Option (Nat × Value)) : Prop :=
  (r = none ∧ r' = none) ∨ ∃ j v V', r = some (j, v) ∧ r' = some (j, V') ∧ VR ρ v V' ∧ i ≤ j ∧ ∃ x, es[j - i]? = some x ∧ x.key = u ∧ x.val = v ∧ keyV u

theorem same_ok (hcx : CxE P cx) {t : TypeId} {d : TypeDesc} {e : ETy} (he : cx.eTy t = some e) (hd : P.underlying t = some d) {u v : V} {U W : Value} {b : Bool} (h : eqV S e u v = some b) (hu : VR ρ u U) (hv : VR ρ v W) :
    Instr.sameNow d U W = none ∨ Instr.sameNow d U W = some b := by
  obtain ⟨d', hd', he⟩ := obind_some he
  rw [hcx.und hd'] at hd
  cases hd
  cases d with
  | bool =>
    cases he
    obtain ⟨a, rfl, h⟩ := bBool_some (show bBool u (fun a => bBool v fun b => some (beqBool a b)) = some b from h)
    obtain ⟨a', rfl, h⟩ := bBool_some h
    cases h
    have hu : U = .bool a := hu
    have hv : W = .bool a' := hv
    subst hu; subst hv
    right
    cases a <;> cases a' <;> rfl
  | int k =>
    cases he
    obtain ⟨i, a, rfl, h⟩ := bInt_some (show bInt u (fun k a => bInt v fun j b => bIf (beqKind k j) (some (beqInt a b)) none) = some b from h)
    obtain ⟨j, a', rfl, h⟩ := bInt_some h
    obtain ⟨hk, h⟩ := bIf_none (a := some (beqInt a a')) h
    cases h
    have hij := (beqKind_eq _ _).1 hk
    subst hij
    have hu : U = .int i a := hu
    have hv : W = .int i a' := hv
    subst hu; subst hv
    right
    simp [Instr.sameNow]
    rfl
  | string =>
    cases he
    obtain ⟨s, rfl, h⟩ := bStr_some (show bStr u (fun s => bStr v fun t => some (beqList Nat.beq s t)) = some b from h)
    obtain ⟨s', rfl, h⟩ := bStr_some h
    cases h
    obtain ⟨t1, rfl, h1⟩ := hu
    obtain ⟨t2, rfl, h2⟩ := hv
    right
    rw [beqNats_eq, str_eq h1 h2]
    rfl
  | _ => left; rfl

theorem find_ok (hcx : CxE P cx) (hr : Rel cc ρ S w) {t : TypeId} {d : TypeDesc} {e : ETy} (hk : cx.kTy t = some e) (hd : P.underlying t = some d) {u : V} {U : Value} (hu : VR ρ u U) : ∀ (es : List Ent) (m : List MapEntry) (i : Nat) (r : Option (Nat × V)),
    EntsR ρ es m → findEnt S e u es i = some r → ∃ r', (Instr.findAsking t U m i).run P w = .ok r' w ∧ (Instr.findNow d U m i = none ∨ Instr.findNow d U m i = some r') ∧ FR ρ u es i r r'
  | [], m, i, r, hm, h => by
    rw [show m = [] from hm]
    cases h
    exact ⟨none, by simp [Instr.findAsking], .inr rfl, .inl ⟨rfl, rfl⟩⟩
  | x :: es, m, i, r, ⟨e', m', hm, ⟨h1, h2, h3⟩, hs⟩, h => by
    subst hm
    obtain ⟨b, hb, h⟩ := obind_some (show obind (eqV S e u x.key) (fun b => Bool.rec (findEnt S e u es (Nat.succ i)) (some (some (i, x.val))) b) = some r from h)
    have heq := run_equal hcx hr (kTy_some hk).1 hb hu h1
    have hsame := same_ok hcx (kTy_some hk).1 hd hb hu h1
    cases b with
    | true =>
      cases h
      obtain ⟨e1, e2⟩ := eqV_true hk hb
      refine ⟨some (i, e'.val), by simp [Instr.findAsking, heq], ?_, .inr ⟨i, x.val, e'.val, rfl, rfl, h2, Nat.le_refl _, x, by simp, e1.symm, rfl, e2⟩⟩
      rcases hsame with hsame | hsame <;> simp [Instr.findNow, hsame]
    | false =>
      obtain ⟨r', g1, g2, g3⟩ := find_ok hcx hr hk hd hu es m' (i + 1) r hs h
      refine ⟨r', by simp [Instr.findAsking, heq, g1], ?_, ?_⟩
      · rcases hsame with hsame | hsame
        · left; simp [Instr.findNow, hsame]
        · simp only [Instr.findNow, hsame]; exact g2
      · rcases g3 with g3 | ⟨j, v, V', q1, q2, q3, q4, y, q5, q6⟩
        · exact .inl g3
        · refine .inr ⟨j, v, V', q1, q2, q3, by omega, y, ?_, q6⟩
          rw [show j - i = (j - (i + 1)) + 1 by omega]; simpa using q5

theorem findKey_ok (hcx : CxE P cx) (hr : Rel cc ρ S w) {t : TypeId} {e : ETy} (hk : cx.kTy t = some e) {u : V} {U : Value} (hu : VR ρ u U) {es : List Ent} {m : List MapEntry} {r : Option (Nat × V)}
    (hm : EntsR ρ es m) (h : findEnt S e u es 0 = some r) : ∃ r', (Instr.findKey t U m).run P w = .ok r' w ∧ FR ρ u es 0 r r' := by
  obtain ⟨d, hd, _⟩ := obind_some (kTy_some hk).1
  obtain ⟨r', g1, g2, g3⟩ := find_ok hcx hr hk (hcx.und hd) hu es m 0 r hm h
  refine ⟨r', ?_, g3⟩
  rcases g2 with g2 | g2
  · simp [Instr.findKey, run_underlying (hcx.und hd), g2, g1]
  · simp [Instr.findKey, run_underlying (hcx.und hd), g2]

end Go.K

namespace Go.K
open Go.MapKept (heap_set run_setObj_map)
variable {cc : CC} {ρ ρ' ρ₁ : Rho} {S S' S₁ : St} {w w' w₁ : World} {P : Program} {o : Oper} {x y z : Opd} {X Y Z : Operand} {cx : Cx}

def setHeap (w : World) (r : Nat) (ob : Obj) : World := { w with heap := w.heap.setIfInBounds r ob }

theorem setHeap_at {r : Nat} {ob ob' : Obj} (h : w.heap[r]? = some ob) : (setHeap w r ob').heap[r]? = some ob' := (heap_set (o' := ob') h).1
theorem setHeap_ne {r j : Nat} {ob' : Obj} (h : j ≠ r) : (setHeap w r ob').heap[j]? = w.heap[j]? := by
  simp [setHeap, Ne.symm h]
theorem setHeap_size (r : Nat) (ob : Obj) : (setHeap w r ob).heap.size = w.heap.size := by simp [setHeap]

/-- a map turned -/
theorem sim_map (hr : Rel cc ρ S w) {r : Pa} {L : Loc} {es es2 : List Ent} {clock clock2 : Nat} {es' es2' : Array MapEntry} (hL : ρ r = some L) (hS : S.get r = some (.map es clock)) (h1 : w.heap[L.blk]? = some (.map es' clock))
    (h2 : EntsR ρ es2 es2'.toList) : Sim cc ρ S w ρ (S.put r (.map es2 clock2)) (setHeap w L.blk (.map es2' clock2)) :=
  sim_mod hr hL hS (fun j hj => setHeap_ne hj) (setHeap_size _ _) rfl rfl rfl rfl (fun h => by cases h) ⟨es2', setHeap_at h1, h2⟩ (fun ⟨lp, hl⟩ => (by rw [h1] at hl; cases hl))

theorem run_setMap {r clock : Nat} {es : Array MapEntry} (ob : Obj) (h : w.heap[r]? = some (.map es clock)) : (setObj r ob).run P w = .ok () (setHeap w r ob) := run_setObj_map ob h

theorem kMap {t : TypeId} {p : TypeId × TypeId} (hcx : CxT P cx) (h : oMap (cx.und t) = some p) : P.underlying t = some (.map p.1 p.2) := hcx.und (oMap_some h)

theorem kTy_und (hcx : CxT P cx) {t : TypeId} {e : ETy} (hk : cx.kTy t = some e) : ∃ d, P.underlying t = some d := by
  obtain ⟨d, hd, _⟩ := obind_some (kTy_some hk).1
  exact ⟨d, hcx.und hd⟩

/-- what is found among entries in whatever order -/
theorem bag_find {e : ETy} {u : V} {es es2 : List Ent} {r : Option (Nat × V)} (h : bagFind S e u es = some r) (hp : (es2.map fun x => (x.key, x.val)).Perm (es.map fun x => (x.key, x.val))) :
    ∃ r2, findEnt S e u es2 0 = some r2 ∧ ((r = none ∧ r2 = none) ∨ ∃ i j v, r = some (i, v) ∧ r2 = some (j, v)) := by
  have key : ∀ (es : List Ent) r, bagFind S e u es = some r → (∀ x ∈ es, ∃ b, eqV S e u x.key = some b ∧ (b = true → ∃ i, r = some (i, x.val))) ∧ (∀ i v, r = some (i, v) → ∃ x ∈ es, eqV S e u x.key = some true) := by
    intro es
    induction es with
    | nil => intro r h; cases h; exact ⟨fun x hx => (by cases hx), fun i v h => (by cases h)⟩
    | cons x es ih =>
      intro r h
      obtain ⟨b, hb, h⟩ := obind_some (show obind (eqV S e u x.key) (fun b => obind (bagFind S e u es) fun r => Bool.rec (some r) (Option.rec (some (some (0, x.val))) (fun _ => none) r) b) = some r from h)
      obtain ⟨r1, hr1, h⟩ := obind_some h
      obtain ⟨h1, h2⟩ := ih r1 hr1
      cases b with
      | false =>
        cases h
        refine ⟨fun y hy => ?_, fun i v e => ?_⟩
        · rcases List.mem_cons.1 hy with rfl | hy
          · exact ⟨false, hb, fun h => (by cases h)⟩
          · exact h1 y hy
        · obtain ⟨y, hy, h3⟩ := h2 i v e
          exact ⟨y, by simp [hy], h3⟩
      | true =>
        cases r1 with
        | some q => cases h
        | none =>
          cases h
          refine ⟨fun y hy => ?_, fun i v e => ⟨x, by simp, hb⟩⟩
          rcases List.mem_cons.1 hy with rfl | hy
          · exact ⟨true, hb, fun _ => ⟨0, rfl⟩⟩
          · obtain ⟨b, hb', h3⟩ := h1 y hy
            refine ⟨b, hb', fun hb => ?_⟩
            obtain ⟨i, hi⟩ := h3 hb
            cases hi
  obtain ⟨k1, k2⟩ := key es r h
  have k1' : ∀ x ∈ es2, ∃ b, eqV S e u x.key = some b ∧ (b = true → ∃ i, r = some (i, x.val)) := fun x hx => by
    have : (x.key, x.val) ∈ es.map fun x => (x.key, x.val) := hp.mem_iff.1 (List.mem_map.2 ⟨x, hx, rfl⟩)
    obtain ⟨y, hy, he⟩ := List.mem_map.1 this
    obtain ⟨b, g1, g2⟩ := k1 y hy
    injection he with e1 e2
    exact ⟨b, by rw [← e1]; exact g1, fun hb => by rw [← e2]; exact g2 hb⟩
  have k2' : ∀ i v, r = some (i, v) → ∃ x ∈ es2, eqV S e u x.key = some true := fun i v e => by
    obtain ⟨y, hy, h3⟩ := k2 i v e
    have : (y.key, y.val) ∈ es2.map fun x => (x.key, x.val) := hp.mem_iff.2 (List.mem_map.2 ⟨y, hy, rfl⟩)
    obtain ⟨x, hx, he⟩ := List.mem_map.1 this
    injection he with e1 e2
    exact ⟨x, hx, by rw [e1]; exact h3⟩
  clear key k1 k2 h hp es
  have fin : ∀ (l : List Ent) (n : Nat), (∀ x ∈ l, ∃ b, eqV S e u x.key = some b ∧ (b = true → ∃ i, r = some (i, x.val))) →
      ∃ r2, findEnt S e u l n = some r2 ∧ ((r2 = none ∧ ∀ x ∈ l, eqV S e u x.key ≠ some true) ∨ ∃ i j v, r = some (i, v) ∧ r2 = some (j, v)) := by
    intro l
    induction l with
    | nil => intro n _; exact ⟨none, rfl, .inl ⟨rfl, fun x hx => by cases hx⟩⟩
    | cons x l ih =>
      intro n h
      obtain ⟨b, hb, h1⟩ := h x (by simp)
      have e0 : findEnt S e u (x :: l) n = obind (eqV S e u x.key) fun b => Bool.rec (findEnt S e u l (Nat.succ n)) (some (some (n, x.val))) b := rfl
      rw [e0, hb]
      cases b with
      | true =>
        obtain ⟨i, hi⟩ := h1 rfl
        exact ⟨_, rfl, .inr ⟨i, n, x.val, hi, rfl⟩⟩
      | false =>
        obtain ⟨r2, g1, g2⟩ := ih (n + 1) fun y hy => h y (by simp [hy])
        refine ⟨r2, g1, ?_⟩
        rcases g2 with ⟨g2, g3⟩ | g2
        · refine .inl ⟨g2, fun y hy => ?_⟩
          rcases List.mem_cons.1 hy with rfl | hy
          · rw [hb]; simp
          · exact g3 y hy
        · exact .inr g2
  obtain ⟨r2, g1, g2⟩ := fin es2 0 k1'
  refine ⟨r2, g1, ?_⟩
  rcases g2 with ⟨g2, g3⟩ | g2
  · refine .inl ⟨?_, g2⟩
    cases hr : r with
    | none => rfl
    | some q =>
      obtain ⟨x, hx, h3⟩ := k2' q.1 q.2 (by rw [hr])
      exact absurd h3 (g3 x hx)
  · exact .inr g2

theorem ok_lookup (hcx : CxE P cx) {t : TypeId} {p : TypeId × TypeId} {e : ETy} {z : V} {ok : Bool} (ho : o.op = .lookup t X Y ok) (hp : oMap (cx.und t) = some p) (hk : cx.kTy p.1 = some e) (hz : cx.zero p.2 = some z)
    (hx : cOpd X = some x) (hy : cOpd Y = some y) : OpOk cc P o (.lookup e z ok x y) := .pure' fun env S v S' ρ a w he hr hen => by
  obtain ⟨hfit, he⟩ := bIf_err he
  have vx := opd_sound hx hen
  have vy := opd_sound hy hen
  have hund := kMap hcx.toCxT hp
  obtain ⟨i, zv, z1, z2, z3⟩ := zero_sound hcx.toCxT hz ρ
  have hck := fun em => check_ok (w := w) hcx hk vy hfit em 9998
  have lk : ∀ (r : Option (Nat × V)) (r' : Option (Nat × Value)), lookRes z ok S r = .ok v S' → ((r = none ∧ r' = none) ∨ ∃ j u U, (∃ i, r = some (i, u)) ∧ r' = some (j, U) ∧ VR ρ u U) →
      S' = S ∧ VR ρ v (if ok then .tuple #[(r'.map (·.2)).getD zv, .bool r'.isSome] else (r'.map (·.2)).getD zv) := by
    intro r r' h1 h2
    rcases h2 with ⟨rfl, rfl⟩ | ⟨j, u, U, ⟨i, rfl⟩, rfl, h2⟩
    · cases h1
      refine ⟨rfl, ?_⟩
      cases ok with
      | true => exact ⟨_, rfl, ⟨zv, [.bool false], rfl, z3, .bool false, [], rfl, rfl, rfl⟩⟩
      | false => exact z3
    · cases h1
      refine ⟨rfl, ?_⟩
      cases ok with
      | true => exact ⟨_, rfl, ⟨U, [.bool true], rfl, h2, .bool true, [], rfl, rfl, rfl⟩⟩
      | false => exact h2
  rcases onMap_ok he with ⟨hl, he⟩ | ⟨r, hl, he⟩
  · rw [hl] at vx
    have vx : a.eval X = .map none := vx
    obtain ⟨h1, h2⟩ := lk none none he (.inl ⟨rfl, rfl⟩)
    refine ⟨h1, _, ?_, h2⟩
    obtain ⟨r', f1, f2⟩ := findKey_ok hcx hr hk vy (es := []) (m := []) rfl rfl
    have hr' : r' = none := by rcases f2 with ⟨_, h⟩ | ⟨j, _, _, h, _⟩; exact h; cases h
    subst hr'
    simp [execOp, ho, vx, Instr.lookup, run_underlying hund, hck, f1, run_zeroValue' z1 z2]
  · obtain ⟨bb, hS, he⟩ := rbind_ok he
    obtain ⟨q, hq, he⟩ := rbind_ok he
    rw [hl] at vx
    obtain ⟨L, hL, vx⟩ := vx
    obtain ⟨es', clock, r', m1, f1, f2⟩ : ∃ es' clock r', w.heap[L.blk]? = some (.map es' clock) ∧ (Instr.findKey p.1 (a.eval Y) es'.toList).run P w = .ok r' w ∧ ((q = none ∧ r' = none) ∨ ∃ j u U, (∃ i, q = some (i, u)) ∧ r' = some (j, U) ∧ VR ρ u U) := by
      cases bb with
      | map es clock =>
        obtain ⟨es', m1, m2⟩ := hr.mapAt hL hS
        obtain ⟨r', f1, f2⟩ := findKey_ok hcx hr hk vy m2 hq
        refine ⟨es', clock, r', m1, f1, ?_⟩
        rcases f2 with h | ⟨j, u, U, h1, h2, h3, _⟩
        · exact .inl h
        · exact .inr ⟨j, u, U, ⟨j, h1⟩, h2, h3⟩
      | bag es =>
        obtain ⟨es', clock, es2, m1, m2, m3⟩ := hr.blk r L _ hL hS
        obtain ⟨q', hq', hqq⟩ := bag_find hq m3
        obtain ⟨r', f1, f2⟩ := findKey_ok hcx hr hk vy m2 hq'
        refine ⟨es', clock, r', m1, f1, ?_⟩
        rcases f2 with ⟨h1, h2⟩ | ⟨j, u, U, h1, h2, h3, _⟩
        · rcases hqq with ⟨g1, g2⟩ | ⟨i, j, u, g1, g2⟩
          · exact .inl ⟨g1, h2⟩
          · rw [h1] at g2; cases g2
        · rcases hqq with ⟨g1, g2⟩ | ⟨i, j', u', g1, g2⟩
          · rw [h1] at g2; cases g2
          · rw [h1] at g2; cases g2
            exact .inr ⟨j, u, U, ⟨i, g1⟩, h2, h3⟩
      | _ => cases hq
    obtain ⟨h1, h2⟩ := lk q r' he f2
    refine ⟨h1, _, ?_, h2⟩
    cases r' with
    | none => simp [execOp, ho, vx, Instr.lookup, run_underlying hund, run_getMap m1, hck, f1, run_zeroValue' z1 z2]
    | some q => simp [execOp, ho, vx, Instr.lookup, run_underlying hund, run_getMap m1, hck, f1]

theorem stays {u : V} {U : Value} {es : List Ent} {es' : Array MapEntry} {j : Nat} {x : Ent} (hm : EntsR ρ es es'.toList) (hu : VR ρ u U) (hj : es[j]? = some x) (hxk : x.key = u) (hkv : keyV u) :
    (Instr.keyThatStays (((es'[j]?).map (·.key)).getD U) U).run P w = .ok U w := by
  obtain ⟨e, h1, h2, _⟩ := hm.get hj
  rw [Array.getElem?_toList] at h1
  have : e.key = U := key_det hkv (by rw [← hxk]; exact h2) hu
  simp [Instr.keyThatStays, h1, this, key_bits hkv hu 9999]

theorem ok_mapUpdate (hcx : CxE P cx) {t : TypeId} {p : TypeId × TypeId} {e : ETy} (ho : o.op = .mapUpdate t X Y Z ∨ o.op = .insert t X Y Z) (hp : oMap (cx.und t) = some p) (hk : cx.kTy p.1 = some e)
    (hx : cOpd X = some x) (hy : cOpd Y = some y) (hz : cOpd Z = some z) : OpOk cc P o (.mapUpdate e x y z) := by
  intro env S v S' ρ a w he hr hen hf
  obtain ⟨hfit, he⟩ := bIf_err he
  have vx := opd_sound hx hen
  have vy := opd_sound hy hen
  have vz := opd_sound hz hen
  have hund := kMap hcx.toCxT hp
  have hck := fun em => check_ok (w := w) hcx hk vy hfit em 9998
  rcases onMap_ok he with ⟨hl, he⟩ | ⟨r, hl, he⟩
  · cases he
  · obtain ⟨es, clock, hS, he⟩ := mapOf_ok he
    obtain ⟨q, hq, he⟩ := rbind_ok he
    rw [hl] at vx
    obtain ⟨L, hL, vx⟩ := vx
    obtain ⟨es', m1, m2⟩ := hr.mapAt hL hS
    obtain ⟨r', f1, f2⟩ := findKey_ok hcx hr hk vy m2 hq
    obtain ⟨w', hrun, hv, hsim⟩ : ∃ w', (Instr.mapUpdate t (a.eval X) (a.eval Y) (a.eval Z)).run P w = .ok () w' ∧ v = undefV ∧ Sim cc ρ S w ρ S' w' := by
      rcases f2 with ⟨rfl, rfl⟩ | ⟨j, u, U, rfl, rfl, h3, _, x', h4, h5, h6, h7⟩
      · cases he
        refine ⟨setHeap w L.blk (.map (es'.push ⟨a.eval Y, a.eval Z, clock⟩) (clock + 1)), ?_, rfl, sim_map hr hL hS m1 ?_⟩
        · simp only [Instr.mapUpdate, Sem.run_bind, run_underlying hund, Result.andThen_ok, vx, run_getMap m1, hck, f1]
          rw [run_setMap _ m1]
        · rw [Array.toList_push, lapp_eq]
          exact m2.append ⟨_, [], rfl, ⟨vy, vz, rfl⟩, rfl⟩
      · cases he
        rw [Nat.sub_zero] at h4
        have hst := stays (P := P) (w := w) m2 vy h4 h5 h7
        refine ⟨setHeap w L.blk (.map (es'.modify j fun e => { e with key := a.eval Y, val := a.eval Z }) clock), ?_, rfl, sim_map hr hL hS m1 ?_⟩
        · simp only [Instr.mapUpdate, Sem.run_bind, run_underlying hund, Result.andThen_ok, vx, run_getMap m1, hck, f1, hst]
          rw [run_setMap _ m1]
        · rw [Array.toList_modify]
          exact m2.set fun x'' e'' _ h _ => ⟨vy, vz, h.2.2⟩
    refine ⟨.skip, w', ρ, undef, ?_, rfl, by rw [hv]; exact ⟨#[], rfl, rfl⟩, hsim⟩
    rcases ho with ho | ho <;> simp only [execOp, ho, Sem.run_bind, hrun, Result.andThen_ok, Sem.run_pure]

theorem ok_mapEntry (hcx : CxE P cx) {t : TypeId} {p : TypeId × TypeId} {e : ETy} {z : V} (ho : o.op = .mapEntry t X Y) (hp : oMap (cx.und t) = some p) (hk : cx.kTy p.1 = some e) (hz : cx.zero p.2 = some z)
    (hx : cOpd X = some x) (hy : cOpd Y = some y) : OpOk cc P o (.mapEntry e z x y) := by
  intro env S v S' ρ a w he hr hen hf
  obtain ⟨hfit, he⟩ := bIf_err he
  have vx := opd_sound hx hen
  have vy := opd_sound hy hen
  have hund := kMap hcx.toCxT hp
  obtain ⟨i, zv, z1, z2, z3⟩ := zero_sound hcx.toCxT hz ρ
  have hck := fun em => check_ok (w := w) hcx hk vy hfit em 9998
  rcases onMap_ok he with ⟨hl, he⟩ | ⟨r, hl, he⟩
  · cases he
  · obtain ⟨es, clock, hS, he⟩ := mapOf_ok he
    obtain ⟨q, hq, he⟩ := rbind_ok he
    rw [hl] at vx
    obtain ⟨L, hL, vx⟩ := vx
    obtain ⟨es', m1, m2⟩ := hr.mapAt hL hS
    obtain ⟨r', f1, f2⟩ := findKey_ok hcx hr hk vy m2 hq
    obtain ⟨w', v', hrun, hv, hsim⟩ : ∃ w' v', (Instr.mapEntry t (a.eval X) (a.eval Y)).run P w = .ok v' w' ∧ VR ρ v v' ∧ Sim cc ρ S w ρ S' w' := by
      rcases f2 with ⟨rfl, rfl⟩ | ⟨j, u, U, rfl, rfl, h3, _, x', h4, h5, h6, h7⟩
      · cases he
        refine ⟨setHeap w L.blk (.map (es'.push ⟨a.eval Y, zv, clock⟩) (clock + 1)), .tuple #[zv, .int .i64 (clock : Int)], ?_, ⟨_, rfl, ⟨zv, [_], rfl, z3, _, [], rfl, rfl, rfl⟩⟩, sim_map hr hL hS m1 ?_⟩
        · simp only [Instr.mapEntry, Sem.run_bind, run_underlying hund, Result.andThen_ok, vx, run_getMap m1, hck, f1, run_zeroValue' z1 z2]
          rw [run_setMap _ m1]; rfl
        · rw [Array.toList_push, lapp_eq]
          exact m2.append ⟨_, [], rfl, ⟨vy, z3, rfl⟩, rfl⟩
      · cases he
        rw [Nat.sub_zero] at h4
        have hst := stays (P := P) (w := w) m2 vy h4 h5 h7
        obtain ⟨e', g1, g2⟩ := m2.get h4
        rw [Array.getElem?_toList] at g1
        have hb : bornAt es j = x'.born := by unfold bornAt; rw [lget_eq, h4]
        refine ⟨setHeap w L.blk (.map (es'.modify j fun e => { e with key := a.eval Y }) clock), .tuple #[U, .int .i64 (x'.born : Int)], ?_, ⟨_, rfl, ⟨U, [_], rfl, h3, _, [], rfl, by rw [hb]; rfl, rfl⟩⟩, sim_map hr hL hS m1 ?_⟩
        · simp only [Instr.mapEntry, Sem.run_bind, run_underlying hund, Result.andThen_ok, vx, run_getMap m1, hck, f1, hst]
          rw [run_setMap _ m1]
          simp [g1, g2.2.2, goInt]
        · rw [Array.toList_modify]
          exact m2.set fun x'' e'' hx'' h he'' => by
            rw [h4] at hx''; cases hx''
            exact ⟨vy, by rw [← h6]; exact h.2.1, h.2.2⟩
    refine ⟨.value v', w', ρ, v', ?_, rfl, hv, hsim⟩
    simp only [execOp, ho, Sem.run_bind, hrun, Result.andThen_ok, Sem.run_pure]

theorem bornIdx_some {b : Nat} : ∀ {es : List Ent} {i j : Nat} {k : V}, bornIdx b es i = some (j, k) → i ≤ j ∧ ∃ x, es[j - i]? = some x ∧ x.born = b ∧ x.key = k ∧ ∀ n, n < j - i → ∀ y, es[n]? = some y → y.born ≠ b
  | [], i, j, k, h => by cases h
  | x :: es, i, j, k, h => by
    have h : bIf (Nat.beq x.born b) (some (i, x.key)) (bornIdx b es (Nat.succ i)) = some (j, k) := h
    cases hb : Nat.beq x.born b with
    | true =>
      rw [hb] at h
      cases h
      exact ⟨Nat.le_refl _, x, by simp, Nat.eq_of_beq_eq_true hb, rfl, fun n hn => by omega⟩
    | false =>
      rw [hb] at h
      obtain ⟨h1, y, h2, h3, h4, h5⟩ := bornIdx_some (show bornIdx b es (i + 1) = some (j, k) from h)
      refine ⟨by omega, y, by rw [show j - i = (j - (i + 1)) + 1 by omega]; simpa using h2, h3, h4, fun n hn y' hy' => ?_⟩
      cases n with
      | zero => simp at hy'; subst hy'; intro hc; rw [hc, natBeq_eq] at hb; simp at hb
      | succ n => exact h5 n (by omega) y' (by simpa using hy')

theorem ok_entryStore {t : TypeId} (ho : o.op = .entryStore t X Y Z) (hx : cOpd X = some x) (hy : cOpd Y = some y) (hz : cOpd Z = some z) : OpOk cc P o (.entryStore x y z) := by
  intro env S v S' ρ a w he hr hen hf
  have vx := opd_sound hx hen
  have vy := opd_sound hy hen
  have vz := opd_sound hz hen
  rcases onMap_ok he with ⟨hl, he⟩ | ⟨r, hl, he⟩
  · cases he
  · obtain ⟨es, clock, hS, he⟩ := mapOf_ok he
    obtain ⟨ki, n, hly, he⟩ := onInt_ok he
    cases n with
    | negSucc _ => cases he
    | ofNat b =>
      obtain ⟨⟨j, k⟩, hq, he⟩ := rbind_ok (f := fun p : Nat × V => Res.ok undefV (S.put r (.map (setEnt p.2 (env.look z) es p.1) clock))) he
      cases he
      rw [hl] at vx
      obtain ⟨L, hL, vx⟩ := vx
      rw [hly] at vy
      have vy : a.eval Y = .int ki (b : Int) := vy
      obtain ⟨es', m1, m2⟩ := hr.mapAt hL hS
      obtain ⟨_, x', h2, h3, h4, h5⟩ := bornIdx_some hq
      rw [Nat.sub_zero] at h2 h5
      obtain ⟨e', g1, g2⟩ := m2.get h2
      rw [Array.getElem?_toList] at g1
      have hlt : j < es'.size := (Array.getElem?_eq_some_iff.1 g1).1
      have hfind : es'.findIdx? (fun e => (e.born : Int) == (b : Int)) = some j := by
        rw [Array.findIdx?_eq_some_iff_getElem]
        refine ⟨hlt, ?_, fun n hn => ?_⟩
        · have : es'[j] = e' := (Array.getElem?_eq_some_iff.1 g1).2
          rw [this, g2.2.2, h3]; simp
        · have hlen := m2.length
          have hn' : n < es.length := by have := (List.getElem?_eq_some_iff.1 h2).1; omega
          obtain ⟨e2, q1, q2⟩ := m2.get (List.getElem?_eq_getElem hn')
          rw [Array.getElem?_toList] at q1
          have : es'[n]'(by omega) = e2 := (Array.getElem?_eq_some_iff.1 q1).2
          rw [this, q2.2.2]
          have := h5 n hn _ (List.getElem?_eq_getElem hn')
          simp only [beq_iff_eq]
          omega
      refine ⟨.skip, setHeap w L.blk (.map (es'.modify j fun e => { e with val := a.eval Z }) clock), ρ, undef, ?_, rfl, ⟨#[], rfl, rfl⟩, sim_map hr hL hS m1 ?_⟩
      · simp only [execOp, ho, Sem.run_bind, Instr.entryStore, vx, vy, asInt, asIntOf, Sem.run_pure, Result.andThen_ok, run_getMap m1, hfind]
        rw [run_setMap _ m1]; rfl
      · rw [Array.toList_modify]
        exact m2.set fun x'' e'' hx'' h he'' => by
          rw [h2] at hx''; cases hx''
          exact ⟨by rw [← h4]; exact h.1, vz, h.2.2⟩

theorem setHeap_self {r : Nat} {ob : Obj} (h : w.heap[r]? = some ob) : setHeap w r ob = w := by
  have : w.heap.setIfInBounds r ob = w.heap := Array.ext_getElem? fun i => by
    rw [Array.getElem?_setIfInBounds]
    by_cases e : r = i
    · subst e; rw [if_pos rfl, h]; simp [(Array.getElem?_eq_some_iff.1 h).1]
    · rw [if_neg e]
  unfold setHeap
  rw [this]

theorem ok_delete (hcx : CxE P cx) {args : Array Operand} {tys : Array TypeId} {t : TypeId} {p : TypeId × TypeId} {e : ETy} (ho : o.op = .call { callee := .builtin .delete, args, argTypes := tys })
    (h0 : tys[0]? = some t) (hp : oMap (cx.und t) = some p) (hk : cx.kTy p.1 = some e) (hx : cOpds args = some [x, y]) : OpOk cc P o (.delete e x y) := by
  intro env S v S' ρ a w he hr hen hf
  obtain ⟨hfit, he⟩ := bIf_err he
  obtain ⟨X, Y, hX, hY, vx, vy⟩ := args2 hen hx
  have hund := kMap hcx.toCxT hp
  have hck := fun em => check_ok (w := w) hcx hk vy hfit em 9998
  rcases onMap_ok he with ⟨hl, he⟩ | ⟨r, hl, he⟩
  · cases he
    rw [hl] at vx
    have vx : X = .map none := vx
    subst vx
    refine ⟨.value (.tuple #[]), w, ρ, .tuple #[], ?_, rfl, ⟨#[], rfl, rfl⟩, Sim.refl hr⟩
    rw [exec_builtin ho]
    simp [builtin, Builtin.delete_, h0, hX, hY, run_underlying hund, hck]
  · obtain ⟨es, clock, hS, he⟩ := mapOf_ok he
    obtain ⟨q, hq, he⟩ := rbind_ok he
    rw [hl] at vx
    obtain ⟨L, hL, vx⟩ := vx
    subst vx
    obtain ⟨es', m1, m2⟩ := hr.mapAt hL hS
    obtain ⟨r', f1, f2⟩ := findKey_ok hcx hr hk vy m2 hq
    obtain ⟨w', hrun, hv, hsim⟩ : ∃ w', (Builtin.delete_ tys o.type (args.map a.eval)).run P w = .ok (.tuple #[]) w' ∧ v = .tup [] ∧ Sim cc ρ S w ρ S' w' := by
      rcases f2 with ⟨rfl, rfl⟩ | ⟨j, u, U, rfl, rfl, h3, _, x', h4, h5, h6, h7⟩
      · cases he
        refine ⟨w, ?_, rfl, Sim.refl hr⟩
        simp only [Builtin.delete_, h0, hX, hY, Sem.run_bind, run_underlying hund, Result.andThen_ok, run_getMap m1, hck, f1]
        rw [run_setMap _ m1, setHeap_self m1]; rfl
      · cases he
        refine ⟨setHeap w L.blk (.map (es'.eraseIdxIfInBounds j) clock), ?_, rfl, sim_map hr hL hS m1 ?_⟩
        · simp only [Builtin.delete_, h0, hX, hY, Sem.run_bind, run_underlying hund, Result.andThen_ok, run_getMap m1, hck, f1]
          rw [run_setMap _ m1]; rfl
        · rw [Array.toList_eraseIdxIfInBounds]
          exact m2.del
    refine ⟨.value (.tuple #[]), w', ρ, .tuple #[], ?_, rfl, by rw [hv]; exact ⟨#[], rfl, rfl⟩, hsim⟩
    rw [exec_builtin ho]
    simp [builtin, hrun]

theorem ok_clearM (hcx : CxT P cx) {args : Array Operand} {tys : Array TypeId} {t k e : TypeId} (ho : o.op = .call { callee := .builtin .clear, args, argTypes := tys })
    (h0 : tys[0]? = some t) (hd : cx.und t = some (.map k e)) (hx : cOpds args = some [x]) : OpOk cc P o (.clearM x) := by
  intro env S v S' ρ a w he hr hen hf
  obtain ⟨X, hX, vx⟩ := args1 hen hx
  rcases onMap_ok he with ⟨hl, he⟩ | ⟨r, hl, he⟩
  · cases he
    rw [hl] at vx
    have vx : X = .map none := vx
    subst vx
    refine ⟨.value (.tuple #[]), w, ρ, .tuple #[], ?_, rfl, ⟨#[], rfl, rfl⟩, Sim.refl hr⟩
    rw [exec_builtin ho]
    simp [builtin, Builtin.clear_, h0, hX, run_underlying (hcx.und hd)]
  · obtain ⟨es, clock, hS, he⟩ := mapOf_ok he
    cases he
    rw [hl] at vx
    obtain ⟨L, hL, vx⟩ := vx
    subst vx
    obtain ⟨es', m1, m2⟩ := hr.mapAt hL hS
    refine ⟨.value (.tuple #[]), setHeap w L.blk (.map #[] clock), ρ, .tuple #[], ?_, rfl, ⟨#[], rfl, rfl⟩, sim_map hr hL hS m1 rfl⟩
    rw [exec_builtin ho]
    simp [builtin, Builtin.clear_, h0, hX, run_underlying (hcx.und hd), run_getMap m1, run_setMap _ m1]

end Go.K

namespace Go.K
variable {cc : CC} {ρ ρ' ρ₁ : Rho} {S S' S₁ : St} {w w' w₁ : World} {P : Program} {o : Oper} {x y z : Opd} {X Y Z : Operand} {cx : Cx}

theorem EntsR.all (f : Nat → Bool) : ∀ {l : List Ent} {m : List MapEntry}, EntsR ρ l m → (m.all fun e => f e.born) = l.all fun x => f x.born
  | [], _, h => by rw [show _ = [] from h]; rfl
  | _ :: _, _, ⟨e, m, he, hr, hs⟩ => by subst he; rw [List.all_cons, List.all_cons, EntsR.all f hs, hr.2.2]

theorem EntsR.filter (f : Nat → Bool) : ∀ {l : List Ent} {m : List MapEntry}, EntsR ρ l m → EntsR ρ (l.filter fun x => f x.born) (m.filter fun e => f e.born)
  | [], _, h => by rw [show _ = [] from h]; rfl
  | x :: l, _, ⟨e, m, he, hr, hs⟩ => by
    subst he
    rw [List.filter_cons, List.filter_cons, hr.2.2]
    split
    · exact ⟨e, _, rfl, hr, EntsR.filter f hs⟩
    · exact EntsR.filter f hs

theorem EntsR.isNil {l : List Ent} {m : Array MapEntry} (h : EntsR ρ l m.toList) : m.isEmpty = isNilL l := by
  have hl := h.length
  cases l with
  | nil => simp at hl; simp [hl, isNilL]
  | cons x l => 
    show _ = false
    simp at hl ⊢
    intro h; rw [h] at hl; simp at hl

theorem isNil_array (l : List Nat) : l.toArray.isEmpty = isNilL l := by cases l <;> simp [isNilL]

theorem lmem_eq (a : Nat) : ∀ l : List Nat, lmem a l = l.contains a
  | [] => rfl
  | b :: l => by
    have : lmem a (b :: l) = bIf (Nat.beq b a) true (lmem a l) := rfl
    rw [this, lmem_eq a l, natBeq_eq, List.contains_cons]
    by_cases h : b = a
    · subst h; simp [bIf]
    · have h' : (a == b) = false := by simpa using fun e => h e.symm
      simp [h, h', bIf]

theorem unseen_eq (seen : List Nat) : ∀ es : List Ent, unseen seen es = es.filter fun x => !(seen.contains x.born)
  | [] => rfl
  | x :: es => by
    have : unseen seen (x :: es) = bIf (lmem x.born seen) (unseen seen es) (x :: unseen seen es) := rfl
    rw [this, unseen_eq seen es, lmem_eq, List.filter_cons]
    cases seen.contains x.born <;> rfl

theorem blkIter_ok {b : Blk} {f : Option Pa → Nat → List Nat → Nat → Res V} {v : V} (h : blkIter b f = .ok v S') : ∃ m a l c, b = .mapIter m a l c ∧ f m a l c = .ok v S' := by
  cases b with
  | mapIter m a l c => exact ⟨m, a, l, c, rfl, h⟩
  | _ => cases h

theorem run_getIter {r : Nat} {m : Option Nat} {a c : Nat} {l : Array Nat} (h : w.heap[r]? = some (.mapIter m a l c)) : (getObj r).run P w = .ok (.mapIter m a l c) w := by
  simp [getObj, Sem.run, h]
theorem run_setIter {r : Nat} {m : Option Nat} {a c : Nat} {l : Array Nat} (ob : Obj) (h : w.heap[r]? = some (.mapIter m a l c)) : (setObj r ob).run P w = .ok () (setHeap w r ob) := by
  simp [setObj, Sem.run, h, setHeap]

theorem ok_nextMap (ho : o.op = .next X false) (hx : cOpd X = some x) : OpOk cc P o (.nextMap x) := by
  intro env S v S' ρ a w he hr hen hf
  have vx := opd_sound hx hen
  obtain ⟨b, at_, hl, he⟩ := onPtr_ok he
  obtain ⟨hat, he⟩ := bIf_err he
  have hat : at_ = 0 := by rw [natBeq_eq] at hat; simpa using hat
  subst hat
  obtain ⟨blk, hb, he⟩ := rbind_ok he
  obtain ⟨m, since, seen, last, rfl, he⟩ := blkIter_ok he
  rw [hl] at vx
  obtain ⟨L, hL, vx⟩ := vx
  obtain ⟨m', i1, i2, i3⟩ := hr.blk _ _ _ hL hb
  rw [i2] at vx
  cases m with
  | none =>
    cases he
    have i3 : m' = none := i3
    subst i3
    refine ⟨.value (.tuple #[.bool false]), w, ρ, .tuple #[.bool false], ?_, rfl, ⟨_, rfl, ⟨_, [], rfl, rfl, rfl⟩⟩, Sim.refl hr⟩
    simp [execOp, ho, vx, Instr.next, run_getIter i1]
  | some r =>
    obtain ⟨es, clock, hS, he⟩ := mapOf_ok (show S.mapOf r _ = .ok v S' from he)
    obtain ⟨L', hL', i3⟩ := i3
    subst i3
    obtain ⟨es', m1, m2⟩ := hr.mapAt hL' hS
    cases hc : band (bnot (isNilL seen)) (band (bnot (isNilL es)) (lall (fun e => Nat.ble last e.born) es)) with
    | true =>
      exfalso
      unfold nextOf at he
      rw [hc] at he
      cases he
    | false =>
      have hguard : (!seen.toArray.isEmpty && !es'.isEmpty && es'.all (fun e => decide (e.born ≥ last))) = false := by
        rw [isNil_array, m2.isNil]
        have h1 : es'.all (fun e => decide (e.born ≥ last)) = lall (fun e => Nat.ble last e.born) es := by
          rw [lall_eq, ← Array.all_toList]
          have := EntsR.all (fun n => decide (n ≥ last)) m2
          rw [this]
          congr 1
          funext e
          by_cases h : last ≤ e.born
          · rw [Nat.ble_eq_true_of_le h]; simpa using h
          · have : Nat.ble last e.born = false := by
              cases hb : Nat.ble last e.born with
              | false => rfl
              | true => exact absurd (Nat.le_of_ble_eq_true hb) h
            rw [this]; simpa using h
        rw [h1, ← hc]
        cases isNilL seen <;> cases isNilL es <;> cases lall (fun e => Nat.ble last e.born) es <;> rfl
      unfold nextOf at he
      rw [hc] at he
      have hleft := EntsR.filter (fun n => !(seen.contains n)) m2
      rw [← unseen_eq] at hleft
      have hfl : (es'.filter fun e => !(seen.toArray.contains e.born)).toList = es'.toList.filter fun e => !(seen.contains e.born) := by
        rw [Array.toList_filter]; congr 1; funext e; simp
      cases hu : unseen seen es with
      | nil =>
        rw [hu] at he hleft
        cases he
        have hnil : (es'.filter fun e => !(seen.toArray.contains e.born)) = #[] := by
          apply Array.ext'
          rw [hfl]; exact hleft
        refine ⟨.value (.tuple #[.bool false]), w, ρ, .tuple #[.bool false], ?_, rfl, ⟨_, rfl, ⟨_, [], rfl, rfl, rfl⟩⟩, Sim.refl hr⟩
        simp only [execOp, ho, vx, Instr.next, Sem.run_bind, Nat.add_zero, run_getIter i1, Result.andThen_ok, run_getMap m1, hguard, hnil]
        simp [Question.forced]
      | cons e l =>
        rw [hu] at he hleft
        obtain ⟨hcond, he⟩ := bIf_err he
        cases he
        obtain ⟨c1, c2⟩ : isNilL l = true ∧ Nat.blt e.born since = true := by simpa using hcond
        have hlt : e.born < since := Nat.le_of_ble_eq_true c2
        have hl0 : l = [] := by cases l with | nil => rfl | cons _ _ => cases c1
        subst hl0
        obtain ⟨e', mm, q1, ⟨q2, q3, q4⟩, q5⟩ := hleft
        have q5 : mm = [] := q5
        subst q5
        have hone : (es'.filter fun e => !(seen.toArray.contains e.born)) = #[e'] := by
          apply Array.ext'
          rw [hfl]; exact q1
        have hlt' : e'.born < since := by rw [q4]; exact hlt
        have hnl : ¬ since ≤ e'.born := by omega
        refine ⟨.value (.tuple #[.bool true, e'.key, e'.val]), setHeap w L.blk (.mapIter (some L'.blk) since (seen.toArray.push e'.born) clock), ρ, .tuple #[.bool true, e'.key, e'.val], ?_, rfl,
          ⟨_, rfl, ⟨_, _, rfl, rfl, _, _, rfl, q2, _, [], rfl, q3, rfl⟩⟩, ?_⟩
        · simp only [execOp, ho, vx, Instr.next, Sem.run_bind, Nat.add_zero, run_getIter i1, Result.andThen_ok, run_getMap m1, hguard, hone]
          simp [Question.forced, hlt', hnl, run_setIter _ i1]
        · refine sim_mod hr hL hb (fun j hj => setHeap_ne hj) (setHeap_size _ _) rfl rfl rfl rfl (fun h => by cases h) ⟨some L'.blk, ?_, i2, L', hL', rfl⟩ (fun ⟨lp, hl⟩ => (by rw [i1] at hl; cases hl))
          rw [setHeap_at i1, lapp_eq, q4]
          simp

theorem lastN_eq : ∀ l : List Nat, lastN l = l.getLast?
  | [] => rfl
  | a :: l => by
    have : lastN (a :: l) = Option.rec (some a) (fun b => some b) (lastN l) := rfl
    rw [this, lastN_eq l, List.getLast?_cons]
    cases l.getLast? <;> rfl

theorem findBorn_ok {b : Nat} : ∀ {es : List Ent} {m : List MapEntry} {x : Ent}, EntsR ρ es m → findBorn b es = some x → ∃ e, m.find? (·.born == b) = some e ∧ EntR ρ x e
  | [], _, x, _, h => by cases h
  | y :: es, _, x, ⟨e, m, he, hr, hs⟩, h => by
    subst he
    have h : bIf (Nat.beq y.born b) (some y) (findBorn b es) = some x := h
    rw [natBeq_eq] at h
    by_cases hb : y.born = b
    · rw [decide_eq_true hb] at h
      cases h
      refine ⟨e, ?_, hr⟩
      simp [hr.2.2, hb]
    · rw [decide_eq_false hb] at h
      obtain ⟨e2, g1, g2⟩ := findBorn_ok hs (show findBorn b es = some x from h)
      exact ⟨e2, by simp [hr.2.2, hb, g1], g2⟩

theorem ok_entry (ho : o.op = .entry X) (hx : cOpd X = some x) : OpOk cc P o (.entry x) := .pure' fun env S v S' ρ a w he hr hen => by
  have vx := opd_sound hx hen
  obtain ⟨b, at_, hl, he⟩ := onPtr_ok he
  obtain ⟨hat, he⟩ := bIf_err he
  have hat : at_ = 0 := by rw [natBeq_eq] at hat; simpa using hat
  subst hat
  obtain ⟨blk, hb, he⟩ := rbind_ok he
  obtain ⟨m, since, seen, stepped, rfl, he⟩ := blkIter_ok he
  rw [hl] at vx
  obtain ⟨L, hL, vx⟩ := vx
  obtain ⟨m', i1, i2, i3⟩ := hr.blk _ _ _ hL hb
  rw [i2] at vx
  obtain ⟨r, hm, he⟩ := rbind_ok he
  subst hm
  obtain ⟨L', hL', i3⟩ := i3
  subst i3
  obtain ⟨st, hst, he⟩ := rbind_ok he
  obtain ⟨es, clock, hS, he⟩ := mapOf_ok he
  obtain ⟨hck, he2⟩ := bIf_err he
  have hck : clock = stepped := by rw [natBeq_eq] at hck; simpa using hck
  obtain ⟨e, hfe, he3⟩ := rbind_ok he2
  cases he3
  subst hck
  obtain ⟨es', m1, m2⟩ := hr.mapAt hL' hS
  obtain ⟨e', g1, g2⟩ := findBorn_ok m2 hfe
  rw [lastN_eq] at hst
  have hback : seen.toArray.back? = some st := by simpa using hst
  refine ⟨rfl, .tuple #[e'.key, e'.val], ?_, ⟨_, rfl, ⟨_, _, rfl, g2.1, _, [], rfl, g2.2.1, rfl⟩⟩⟩
  have hfind : es'.find? (fun e => e.born == st) = some e' := by rw [← Array.find?_toList]; exact g1
  simp only [execOp, ho, vx, Instr.entry, Sem.run_bind, Nat.add_zero, run_getIter i1, Result.andThen_ok, run_getMap m1, hback, hfind, Sem.run_pure]
  simp

end Go.K

namespace Go.K
variable {cc : CC} {P : Program} {o : Oper} {cx : Cx} {k : KOp}

theorem s_alloc (hcx : CxE P cx) {t : TypeId} (ho : o.op = .alloc t) (h : cAlloc cx t = some k) : OpOk cc P o k := by
  obtain ⟨d, hd, h⟩ := obind_some h
  cases d with
  | array n e =>
    have h : bIf (Nat.ble n 64) (obind (cx.zeros t) fun z => some (KOp.new z)) (obind (cx.zeros t) fun zs => obind (cx.zeros e) fun z => match z with | [z] => bIf (lall (V.beq 10 z) zs) (bIf (Nat.beq (llen zs) n) (some (KOp.newBig n z)) none) none | _ => none) = some k := h
    cases hn : Nat.ble n 64 with
    | true =>
      rw [hn] at h
      obtain ⟨z, hz, h⟩ := obind_some (show (obind (cx.zeros t) fun z => some (KOp.new z)) = some k from h)
      cases h
      exact ok_new hcx.toCxT ho hz
    | false =>
      rw [hn] at h
      obtain ⟨zs, hzs, h⟩ := obind_some (show (obind (cx.zeros t) fun zs => obind (cx.zeros e) fun z => match z with | [z] => bIf (lall (V.beq 10 z) zs) (bIf (Nat.beq (llen zs) n) (some (KOp.newBig n z)) none) none | _ => none) = some k from h)
      obtain ⟨z, hz, h⟩ := obind_some h
      match z, hz, h with
      | [z], hz, h =>
        obtain ⟨h1, h⟩ := bIf_none (a := bIf (Nat.beq (llen zs) n) (some (KOp.newBig n z)) none) h
        obtain ⟨h2, h⟩ := bIf_none (a := some (KOp.newBig n z)) h
        cases h
        obtain ⟨_, _, _, _, _, hone⟩ := zeros_sound hcx.toCxT hz (fun _ => none)
        exact ok_newBig hcx.toCxT ho hzs h1 (by rw [llen_eq, natBeq_eq] at h2; simpa using h2) (hone z (by simp))
      | [], _, h => cases h
      | _ :: _ :: _, _, h => cases h
  | _ =>
    obtain ⟨z, hz, h⟩ := obind_some h
    cases h
    exact ok_new hcx.toCxT ho hz

theorem s_build (hcx : CxE P cx) {t : TypeId} {parts : Array (Nat × Operand)} (ho : o.op = .build t parts) (h : cBuild cx t parts.toList = some k) : OpOk cc P o k := by
  obtain ⟨z, hz, h⟩ := obind_some h
  obtain ⟨d, hd, h⟩ := obind_some h
  cases d with
  | struct fs =>
    obtain ⟨pl, hpl, h⟩ := obind_some h
    obtain ⟨ps, hps, h⟩ := obind_some h
    cases h
    exact ok_build hcx.toCxT ho hz hps (.inl ⟨fs, pl, hd, hpl, rfl⟩)
  | array n e =>
    obtain ⟨s, hs, h⟩ := obind_some h
    obtain ⟨ps, hps, h⟩ := obind_some h
    cases h
    exact ok_build hcx.toCxT ho hz hps (.inr ⟨n, e, s, hd, hs, rfl⟩)
  | _ => cases h

theorem s_buildSlice (hcx : CxE P cx) {t : TypeId} {len : Nat} {parts : Array (Nat × Operand)} (ho : o.op = .buildSlice t len parts) (h : cBuildSlice cx t len parts.toList = some k) : OpOk cc P o k := by
  obtain ⟨e, he, h⟩ := obind_some h
  obtain ⟨s, hs, h⟩ := obind_some h
  obtain ⟨z, hz, h⟩ := obind_some h
  obtain ⟨ps, hps, h⟩ := obind_some h
  obtain ⟨hle, h⟩ := bIf_none (a := some (KOp.buildSlice len (Nat.mul len s) (repl z len) ps)) h
  cases h
  exact ok_buildSlice hcx.toCxT ho (oSlice_some he) hs hz hps hle

theorem s_bin (hcx : CxE P cx) {op : BinOp} {t pos : TypeId} {X Y : Operand} (ho : o.op = .binOp op t X Y pos) (h : cBin cx op t X Y = some k) : OpOk cc P o k := by
  obtain ⟨x, hx, h⟩ := obind_some h
  obtain ⟨y, hy, h⟩ := obind_some h
  cases op with
  | eql => obtain ⟨e, he, h⟩ := obind_some h; cases h; exact ok_eq hcx ho (.inl ⟨rfl, rfl⟩) he hx hy
  | neq => obtain ⟨e, he, h⟩ := obind_some h; cases h; exact ok_eq hcx ho (.inr ⟨rfl, rfl⟩) he hx hy
  | _ => cases h; exact ok_bin ho ⟨by simp, by simp⟩ hx hy

theorem s_conv (hcx : CxE P cx) {src dst : TypeId} {X : Operand} (ho : o.op = .convert src dst X) (h : cConv cx src dst X = some k) : OpOk cc P o k := by
  obtain ⟨x, hx, h⟩ := obind_some h
  obtain ⟨d, hd, h⟩ := obind_some h
  cases d with
  | int j =>
    obtain ⟨d2, hd2, h⟩ := obind_some h
    cases d2 with
    | int j2 => cases h; exact ok_conv hcx.toCxT ho hd hd2 hx
    | _ => cases h
  | slice e =>
    obtain ⟨d2, hd2, h⟩ := obind_some h
    cases d2 with
    | string =>
      obtain ⟨d3, hd3, h⟩ := obind_some h
      cases d3 with
      | int j =>
        cases j with
        | u8 => cases h; exact ok_toStr hcx.toCxT ho hd hd3 hd2 hx
        | _ => cases h
      | _ => cases h
    | _ => cases h
  | string =>
    obtain ⟨d2, hd2, h⟩ := obind_some h
    cases d2 with
    | string => cases h; exact ok_strStr hcx.toCxT ho hd hd2 hx
    | _ => cases h
  | _ => cases h

theorem s_mkIface (hcx : CxE P cx) {t : TypeId} {X : Operand} (ho : o.op = .makeInterface t X) (h : cMkIface cx t X = some k) : OpOk cc P o k := by
  obtain ⟨d, hd, h⟩ := obind_some h
  cases d with
  | interface m => cases h
  | _ => obtain ⟨x, hx, h⟩ := obind_some h; cases h; exact ok_mkIface hcx.toCxT ho hd (fun m hm => by cases hm) hx

theorem s_slice (hcx : CxE P cx) {t : TypeId} {X : Operand} {lo hi mx : Option Operand} (ho : o.op = .slice t X lo hi mx) (h : cSlice cx t X lo hi mx = some k) : OpOk cc P o k := by
  obtain ⟨x, hx, h⟩ := obind_some h
  obtain ⟨hmx, hx⟩ := bIf_none hx
  obtain ⟨l, hl, h⟩ := obind_some h
  obtain ⟨hh, hhh, h⟩ := obind_some h
  obtain ⟨m, hm, h⟩ := obind_some h
  obtain ⟨d, hd, h⟩ := obind_some h
  have hmax : mx ≠ none → hi ≠ none := fun h1 h2 => by
    subst h2
    cases mx with
    | none => exact h1 rfl
    | some _ => cases hmx
  cases d with
  | slice e => obtain ⟨s, hs, h⟩ := obind_some h; cases h; exact ok_sliceS hcx.toCxT ho hd hs hx hl hhh hm hmax
  | string =>
    cases mx with
    | none =>
      cases hm
      cases h
      exact ok_sliceStr hcx.toCxT ho hd hx hl hhh
    | some q =>
      obtain ⟨q', _, hm⟩ := obind_some hm
      cases hm
      cases h
  | array n e => obtain ⟨s, hs, h⟩ := obind_some h; cases h; exact ok_sliceA hcx.toCxT ho hd hs hx hl hhh hm hmax
  | _ => cases h

theorem s_fieldAddr (hcx : CxE P cx) {t : TypeId} {X : Operand} {i : Nat} (ho : o.op = .fieldAddr t X i) (h : cFieldAddr cx t X i = some k) : OpOk cc P o k := by
  obtain ⟨fs, hfs, h⟩ := obind_some h
  obtain ⟨f, hf, h⟩ := obind_some h
  obtain ⟨s, hs, h⟩ := obind_some h
  cases s with
  | zero => cases h
  | succ n => obtain ⟨x, hx, h⟩ := obind_some (show (obind (cOpd X) fun y => some (KOp.fieldAddr f.offset y)) = some k from h); cases h; exact ok_fieldAddr hcx.toCxT ho (oFields_some hfs) hf hs hx

theorem s_field (hcx : CxE P cx) {t : TypeId} {X : Operand} {i : Nat} (ho : o.op = .field t X i) (h : cField cx t X i = some k) : OpOk cc P o k := by
  obtain ⟨fs, hfs, h⟩ := obind_some h
  obtain ⟨f, hf, h⟩ := obind_some h
  obtain ⟨s, hs, h⟩ := obind_some h
  obtain ⟨g, hg, h⟩ := obind_some h
  obtain ⟨x, hx, h⟩ := obind_some h
  cases h
  exact ok_field hcx.toCxT ho (oFields_some hfs) hf hs hg hx

theorem s_indexAddr (hcx : CxE P cx) {t : TypeId} {X Y : Operand} (ho : o.op = .indexAddr t X Y) (h : cIndexAddr cx t X Y = some k) : OpOk cc P o k := by
  obtain ⟨x, hx, h⟩ := obind_some h
  obtain ⟨y, hy, h⟩ := obind_some h
  obtain ⟨d, hd, h⟩ := obind_some h
  cases d with
  | array n e => obtain ⟨s, hs, h⟩ := obind_some h; cases h; exact ok_idxArr hcx.toCxT ho hd hs hx hy
  | slice e => obtain ⟨s, hs, h⟩ := obind_some h; cases h; exact ok_idxSl hcx.toCxT ho hd hs hx hy
  | _ => cases h

theorem s_index (hcx : CxE P cx) {t : TypeId} {X Y : Operand} (ho : o.op = .index t X Y) (h : cIndex cx t X Y = some k) : OpOk cc P o k := by
  obtain ⟨x, hx, h⟩ := obind_some h
  obtain ⟨y, hy, h⟩ := obind_some h
  obtain ⟨d, hd, h⟩ := obind_some h
  cases d with
  | array n e =>
    obtain ⟨s, hs, h⟩ := obind_some h
    obtain ⟨g, hg, h⟩ := obind_some h
    cases h
    exact ok_index hcx.toCxT ho hd hs hg hx hy
  | string => cases h; exact ok_indexStr hcx.toCxT ho hd hx hy
  | _ => cases h

theorem s_tassert (hcx : CxE P cx) {X : Operand} {xt t : TypeId} {ok : Bool} (ho : o.op = .typeAssert X xt t ok) (h : cTassert cx X t ok = some k) : OpOk cc P o k := by
  obtain ⟨d, hd, h⟩ := obind_some h
  cases d with
  | interface m => cases h
  | _ =>
    obtain ⟨z, hz, h⟩ := obind_some h
    obtain ⟨x, hx, h⟩ := obind_some h
    cases h
    exact ok_tassert hcx.toCxT ho hd (fun m hm => by cases hm) hz hx

theorem s_map (hcx : CxE P cx) {t : TypeId} {X Y Z : Operand} (ho : o.op = .mapUpdate t X Y Z ∨ o.op = .insert t X Y Z) (h : cMap cx t X Y Z = some k) : OpOk cc P o k := by
  obtain ⟨p, hp, h⟩ := obind_some h
  obtain ⟨e, he, h⟩ := obind_some h
  obtain ⟨x, hx, h⟩ := obind_some h
  obtain ⟨y, hy, h⟩ := obind_some h
  obtain ⟨z, hz, h⟩ := obind_some h
  cases h
  exact ok_mapUpdate hcx ho hp he hx hy hz

theorem s_builtin (hcx : CxE P cx) {b : Builtin} {args : Array Operand} {tys : Array TypeId} {l : List Opd} (ho : o.op = .call { callee := .builtin b, args, argTypes := tys }) (hx : cOpds args = some l)
    (h : cBuiltin cx b tys l = some k) : OpOk cc P o k := by
  cases b with
  | len =>
    match l, hx, h with
    | [y], hx, h =>
      obtain ⟨t, ht, h⟩ := obind_some (show obind tys[0]? (fun t => cLen cx t y) = some k from h)
      obtain ⟨d, hd, h⟩ := obind_some h
      cases d with
      | string => cases h; exact ok_lenStr hcx.toCxT ho ht hd hx
      | slice e => cases h; exact ok_lenSl hcx.toCxT ho ht hd hx
      | map a b => cases h; exact ok_lenMap hcx.toCxT ho ht hd hx
      | array n e => cases h; exact ok_lenC hcx.toCxT ho ht (.inl hd) hx
      | pointer a =>
        obtain ⟨p, hp, h⟩ := obind_some h
        cases h
        exact ok_lenC hcx.toCxT ho ht (.inr ⟨a, hd, oArr_some hp⟩) hx
      | _ => cases h
    | [], _, h => cases h
    | _ :: _ :: _, _, h => cases h
  | cap =>
    match l, hx, h with
    | [y], hx, h =>
      obtain ⟨t, ht, h⟩ := obind_some (show obind tys[0]? (fun t => obind (oSlice (cx.und t)) fun _ => some (KOp.cap y)) = some k from h)
      obtain ⟨e, he, h⟩ := obind_some h
      cases h
      exact ok_cap hcx.toCxT ho ht (oSlice_some he) hx
    | [], _, h => cases h
    | _ :: _ :: _, _, h => cases h
  | min => cases h; exact ok_minmax (mx := false) ho hx
  | max => cases h; exact ok_minmax (mx := true) ho hx
  | append =>
    match l, hx, h with
    | [s, y], hx, h =>
      obtain ⟨t, ht, h⟩ := obind_some (show obind tys[0]? (fun t => cAppend cx t tys[1]? s y) = some k from h)
      obtain ⟨e, he, h⟩ := obind_some h
      obtain ⟨n, hn, h⟩ := obind_some h
      obtain ⟨b, hb, h⟩ := obind_some h
      obtain ⟨u, hu, h⟩ := obind_some h
      obtain ⟨d, hd, h⟩ := obind_some h
      cases d with
      | int j => obtain ⟨z, hz, h⟩ := obind_some h; cases h; exact ok_appendZ hcx.toCxT ho ht (oSlice_some he) hn hb hu hd hz hx
      | _ => obtain ⟨z, hz, h⟩ := obind_some h; cases h; exact ok_append hcx.toCxT ho ht (oSlice_some he) hn hb hu hd (fun j hj => by cases hj) hz hx
    | [], _, h => cases h
    | [_], _, h => cases h
    | _ :: _ :: _ :: _, _, h => cases h
  | copy =>
    match l, hx, h with
    | [s, y], hx, h =>
      obtain ⟨t, ht, h⟩ := obind_some (show obind tys[0]? (fun t => obind (oSlice (cx.und t)) fun e => obind (cx.size e) fun n => some (KOp.copy n s y)) = some k from h)
      obtain ⟨e, he, h⟩ := obind_some h
      obtain ⟨n, hn, h⟩ := obind_some h
      cases h
      exact ok_copy hcx.toCxT ho ht (oSlice_some he) hn hx
    | [], _, h => cases h
    | [_], _, h => cases h
    | _ :: _ :: _ :: _, _, h => cases h
  | delete =>
    match l, hx, h with
    | [s, y], hx, h =>
      obtain ⟨t, ht, h⟩ := obind_some (show obind tys[0]? (fun t => obind (oMap (cx.und t)) fun p => obind (cx.kTy p.1) fun e => some (KOp.delete e s y)) = some k from h)
      obtain ⟨p, hp, h⟩ := obind_some h
      obtain ⟨e, he, h⟩ := obind_some h
      cases h
      exact ok_delete hcx ho ht hp he hx
    | [], _, h => cases h
    | [_], _, h => cases h
    | _ :: _ :: _ :: _, _, h => cases h
  | clear =>
    match l, hx, h with
    | [y], hx, h =>
      obtain ⟨t, ht, h⟩ := obind_some (show obind tys[0]? (fun t => cClear cx t y) = some k from h)
      obtain ⟨d, hd, h⟩ := obind_some h
      cases d with
      | slice e =>
        obtain ⟨n, hn, h⟩ := obind_some h
        obtain ⟨z, hz, h⟩ := obind_some h
        cases h
        exact ok_clearS hcx.toCxT ho ht hd hz hx
      | map a b => cases h; exact ok_clearM hcx.toCxT ho ht hd hx
      | _ => cases h
    | [], _, h => cases h
    | _ :: _ :: _, _, h => cases h
  | _ => cases h

theorem cOp_sound (hcx : CxE P cx) (h : cOp cx o.op = some k) : OpOk cc P o k := by
  cases ho : o.op with
  | move a => rw [ho] at h; obtain ⟨x, hx, h⟩ := obind_some h; cases h; exact ok_mov (.inl ho) hx
  | assign a => rw [ho] at h; obtain ⟨x, hx, h⟩ := obind_some h; cases h; exact ok_mov (.inr ho) hx
  | pick c a b =>
    rw [ho] at h
    obtain ⟨c', hc, h⟩ := obind_some h
    obtain ⟨a', ha, h⟩ := obind_some h
    obtain ⟨b', hb, h⟩ := obind_some h
    cases h
    exact ok_pick ho hc ha hb
  | alloc t => rw [ho] at h; exact s_alloc hcx ho h
  | box t a => rw [ho] at h; obtain ⟨x, hx, h⟩ := obind_some h; cases h; exact ok_box ho hx
  | build t parts => rw [ho] at h; exact s_build hcx ho h
  | buildSlice t len parts => rw [ho] at h; exact s_buildSlice hcx ho h
  | load t a =>
    rw [ho] at h
    obtain ⟨g, hg, h⟩ := obind_some h
    obtain ⟨n, hn, h⟩ := obind_some h
    obtain ⟨x, hx, h⟩ := obind_some h
    cases h
    exact ok_load hcx.toCxT ho hg hn hx
  | store t a v =>
    rw [ho] at h
    obtain ⟨n, hn, h⟩ := obind_some h
    obtain ⟨x, hx, h⟩ := obind_some h
    obtain ⟨y, hy, h⟩ := obind_some h
    cases h
    exact ok_store hcx.toCxT ho hn hx hy
  | nilCheck a => rw [ho] at h; obtain ⟨x, hx, h⟩ := obind_some h; cases h; exact ok_nilCheck ho hx
  | binOp op t a b p => rw [ho] at h; exact s_bin hcx ho h
  | unOp op t a => rw [ho] at h; obtain ⟨x, hx, h⟩ := obind_some h; cases h; exact ok_un ho hx
  | convert s d a => rw [ho] at h; exact s_conv hcx ho h
  | makeInterface t a => rw [ho] at h; exact s_mkIface hcx ho h
  | makeFunc fn first captured =>
    rw [ho] at h
    cases fn with
    | func f =>
      obtain ⟨a, ha, h⟩ := obind_some h
      obtain ⟨b, hb, h⟩ := obind_some h
      cases h
      exact ok_mkFunc ho ha hb
    | _ => cases h
  | makeMap t r =>
    rw [ho] at h
    cases r with
    | none => cases h; exact ok_mkMap hcx.toCxT ho (.inl rfl)
    | some r =>
      cases r with
      | const v =>
        cases v with
        | int j n =>
          obtain ⟨p, hp, h⟩ := obind_some h
          cases h
          exact ok_mkMap hcx.toCxT ho (.inr ⟨j, n, p.1, p.2, rfl, oMap_some hp⟩)
        | _ => cases h
      | _ => cases h
  | makeSlice t l c =>
    rw [ho] at h
    obtain ⟨e, he, h⟩ := obind_some h
    obtain ⟨n, hn, h⟩ := obind_some h
    obtain ⟨b, hb, h⟩ := obind_some h
    obtain ⟨z, hz, h⟩ := obind_some h
    obtain ⟨x, hx, h⟩ := obind_some h
    obtain ⟨y, hy, h⟩ := obind_some h
    cases h
    exact ok_mkSlice hcx.toCxT ho (oSlice_some he) hn hb hz hx hy
  | slice t a lo hi mx => rw [ho] at h; exact s_slice hcx ho h
  | fieldAddr t a i => rw [ho] at h; exact s_fieldAddr hcx ho h
  | field t a i => rw [ho] at h; exact s_field hcx ho h
  | indexAddr t a i => rw [ho] at h; exact s_indexAddr hcx ho h
  | index t a i => rw [ho] at h; exact s_index hcx ho h
  | lookup t a i ok =>
    rw [ho] at h
    obtain ⟨p, hp, h⟩ := obind_some h
    obtain ⟨e, he, h⟩ := obind_some h
    obtain ⟨z, hz, h⟩ := obind_some h
    obtain ⟨x, hx, h⟩ := obind_some h
    obtain ⟨y, hy, h⟩ := obind_some h
    cases h
    exact ok_lookup hcx ho hp he hz hx hy
  | mapUpdate t m q v => rw [ho] at h; exact s_map hcx (.inl ho) h
  | insert t m q v => rw [ho] at h; exact s_map hcx (.inr ho) h
  | mapEntry t m q =>
    rw [ho] at h
    obtain ⟨p, hp, h⟩ := obind_some h
    obtain ⟨e, he, h⟩ := obind_some h
    obtain ⟨z, hz, h⟩ := obind_some h
    obtain ⟨x, hx, h⟩ := obind_some h
    obtain ⟨y, hy, h⟩ := obind_some h
    cases h
    exact ok_mapEntry hcx ho hp he hz hx hy
  | entryStore t m s v =>
    rw [ho] at h
    obtain ⟨x, hx, h⟩ := obind_some h
    obtain ⟨y, hy, h⟩ := obind_some h
    obtain ⟨z, hz, h⟩ := obind_some h
    cases h
    exact ok_entryStore ho hx hy hz
  | range t a =>
    rw [ho] at h
    obtain ⟨p, hp, h⟩ := obind_some h
    obtain ⟨x, hx, h⟩ := obind_some h
    cases h
    exact ok_rangeMap hcx.toCxT ho (oMap_some hp) hx
  | next it s =>
    rw [ho] at h
    cases s with
    | false => obtain ⟨x, hx, h⟩ := obind_some h; cases h; exact ok_nextMap ho hx
    | true => cases h
  | entry it => rw [ho] at h; obtain ⟨x, hx, h⟩ := obind_some h; cases h; exact ok_entry ho hx
  | extract t i => rw [ho] at h; obtain ⟨x, hx, h⟩ := obind_some h; cases h; exact ok_extract ho hx
  | typeAssert a xt t ok => rw [ho] at h; exact s_tassert hcx ho h
  | call c =>
    rw [ho] at h
    obtain ⟨callee, args, argTypes⟩ := c
    cases callee with
    | builtin b => obtain ⟨l, hl, h⟩ := obind_some h; exact s_builtin hcx ho hl h
    | _ => cases h
  | sliceToArrayPointer t a =>
    rw [ho] at h
    obtain ⟨p, hp, h⟩ := obind_some h
    obtain ⟨x, hx, h⟩ := obind_some h
    cases h
    exact ok_s2a hcx.toCxT ho (oArr_some hp) hx
  | panic a =>
    rw [ho] at h
    cases h
    intro env S v S' ρ a w he
    cases he
  | _ => rw [ho] at h; cases h

end Go.K
