/- What all claims of this seat share, part 3: the engine, the contracts, the frame. -/
import Derived.MapKept
import Derived.Laws.Cover3
import Derived.Laws.CopyOwn
import Derived.Test.YtohmhlkdgfcaeaaGreatDoorK2
set_option linter.unusedVariables false
set_option linter.unusedSimpArgs false
namespace Go.Proofs.YtohmhlkdgfcaeaaGreatDoor
open Go Go.RowKit
def StepQ (X : Cx) (Q : Exit → Env → Prop) (ops : Array Oper) (o : Oper) (E E' : Env) : Prop :=
 ∀ g F a w (K : Act → World → Prop), Rel X.w0 X.F0 X.nt g F E a w → (∀ g' F' a' w', Rel X.w0 X.F0 X.nt g' F' E' a' w' → K a' w') →
  if Region.wanted o (yielded ops a.tmps) = true then o.wp X.P a w K (QQ X Q) else K (a.put o.dst undef) w
def GSQ (X : Cx) (Q : Exit → Env → Prop) (ops : Array Oper) (o : Oper) (E : Env) (S : Sl) (f : Eff) : Prop := ∀ E1, S.agree E E1 → f.freshB E1 = true → StepQ X Q ops o E1 (E1.eff f)
theorem GSQ.of {X : Cx} {Q : Exit → Env → Prop} {ops : Array Oper} {o : Oper} {E : Env} {S : Sl} {f : Eff} (h : GSG X ops o E S f) : GSQ X Q ops o E S f := fun E1 h1 h2 g F a w K hr hK => h E1 h1 h2 g F a w K (QQ X Q) hr hK
theorem GSQ.pan {X : Cx} {Q : Exit → Env → Prop} {ops : Array Oper} {o : Oper} {E : Env} {d : Nat} {f : FuncId} {xs : List Operand} {tys : Array TypeId} {args : List PV} {v : Value} (hg : o.guard = none) (ho : o.op = .call { callee := .value (.func f), args := xs.toArray, argTypes := tys })
  (hc : Callable X.P f) (ha : unpvO (xs.map (evT E)) = some args) (hF : Fun X.P f args (.pan v)) (hQ : ∀ E, Q (.panic [{ v := v, recovered := false }]) E) : GSQ X Q ops o E ⟨xs.flatMap opT, [], []⟩ ⟨some d, .row 1000000, none, none⟩ := fun E1 hag hfr g F a w K hr hK => by
 obtain ⟨l1, l2⟩ := args_rel (X := X) ha (S := ⟨xs.flatMap opT, [], []⟩) (fun t ht => ht) E1 g F a w hag hr
 rw [if_pos (wantedNone hg)]
 unfold Oper.wp
 simp only [execOp, ho, resolve, Act.eval, Deferred.ofValue, Sem.run_bind, Sem.run_pure, Result.andThen_ok, invoke, Array.append_empty, run_enter hc, Oper.upon]
 refine (hF w F _ hr.ok ?_).mono ?_
 ·refine ⟨by simpa using l1, fun j c v hj hv => l2 j c v hj ?_⟩
  simpa using hv
 ·rintro e w' ⟨F', h1, h2, h3, rfl⟩
  exact ⟨g, F', E1, hr.call h1 h2 h3, hQ _⟩
theorem no_row {w0 : World} {F0 : Foot} {nt : Nat} {g : Ghost} {F : Foot} {E : Env} {a : Act} {w : World} (hr : Rel w0 F0 nt g F E a w) {t k : Nat} (ht : lk E.ts t = some (.row k)) (hk : lk E.rs k = none) : False := by
 obtain ⟨u, _, h⟩ := hr.ts t _ ht
 have h : g.rw k = some u := h
 rw [hr.rd k hk] at h
 cases h
theorem Ops.absurd {X : Cx} {ops : Array Oper} {l : List Oper} {E : Env} {Q : Exit → Env → Prop} (t k : Nat) (ht : lk E.ts t = some (.row k)) (hk : lk E.rs k = none) : Ops X ops l E Q := fun g F a w hr => (no_row hr ht hk).elim
theorem GSQ.absurd {X : Cx} {Q : Exit → Env → Prop} {ops : Array Oper} {o : Oper} {E : Env} (t k : Nat) {d : Nat} {v : TV} (ht : lk E.ts t = some (.row k)) (hk : lk E.rs k = none) : GSQ X Q ops o E ⟨[t], [], [k]⟩ ⟨some d, v, none, none⟩ := fun E1 h1 h2 g F a w K hr hK =>
 (no_row hr ((h1.ts t List.mem_cons_self).trans ht) ((h1.rs k List.mem_cons_self).trans hk)).elim
inductive PreQ (X : Cx) (Q : Exit → Env → Prop) (ops : Array Oper) : List Oper → Env → List (Sl × Eff) → Env → Prop
 | nil (E : Env) : PreQ X Q ops [] E [] E
 | cons {o : Oper} {os : List Oper} {E E' : Env} {S : Sl} {f : Eff} {L : List (Sl × Eff)} (h : GSQ X Q ops o E S f) (hf : f.freshB E = true) (t : PreQ X Q ops os (E.eff f) L E') : PreQ X Q ops (o :: os) E ((S, f) :: L) E'
section
variable {X : Cx} {Q : Exit → Env → Prop} {ops : Array Oper} {o : Oper} {os : List Oper} {ts : List (Nat × TV)} {bs : List (Nat × TypeId × List TV)} {rs : List (Nat × RowS)} {E' : Env} {S : Sl} {d : Nat} {vv : TV} {L : List (Sl × Eff)}
theorem PreQ.v (h : GSQ X Q ops o ⟨ts, bs, rs⟩ S ⟨some d, vv, none, none⟩) (t : PreQ X Q ops os ⟨(d, vv) :: ts, bs, rs⟩ L E') : PreQ X Q ops (o :: os) ⟨ts, bs, rs⟩ ((S, ⟨some d, vv, none, none⟩) :: L) E' := .cons h rfl t
theorem PreQ.b {nb : TypeId × List TV} (h : GSQ X Q ops o ⟨ts, bs, rs⟩ S ⟨some d, vv, some nb, none⟩) (hf : (lk bs d).isNone = true) (t : PreQ X Q ops os ⟨(d, vv) :: ts, (d, nb) :: bs, rs⟩ L E') : PreQ X Q ops (o :: os) ⟨ts, bs, rs⟩ ((S, ⟨some d, vv, some nb, none⟩) :: L) E' := .cons h hf t
theorem PreQ.r {nr : RowS} (h : GSQ X Q ops o ⟨ts, bs, rs⟩ S ⟨some d, vv, none, some nr⟩) (hf : (lk rs d).isNone = true) (t : PreQ X Q ops os ⟨(d, vv) :: ts, bs, (d, nr) :: rs⟩ L E') : PreQ X Q ops (o :: os) ⟨ts, bs, rs⟩ ((S, ⟨some d, vv, none, some nr⟩) :: L) E' := .cons h hf t
end
theorem PreQ.length {X : Cx} {Q : Exit → Env → Prop} {ops : Array Oper} {os : List Oper} {E E' : Env} {L : List (Sl × Eff)} (h : PreQ X Q ops os E L E') : os.length = L.length := by
 induction h with
 | nil => rfl
 | cons _ _ _ ih => simp [ih]
theorem PreQ.all_ {X : Cx} {Q : Exit → Env → Prop} {ops : Array Oper} {os : List Oper} {E E' : Env} {L : List (Sl × Eff)} (h : PreQ X Q ops os E L E') : ∀ (i : Nat) (b : Nat → Bool), (∀ j, j < L.length → b (i + j) = true) → envAt b L i E = E' := by
 induction h with
 | nil => intro i b _; rfl
 | cons h hf t ih =>
  intro i b hb
  simp only [envAt]
  have h0 := hb 0 (by simp)
  simp only [Nat.add_zero] at h0
  rw [h0]
  exact ih (i + 1) b (fun j hj => by have := hb (j + 1) (by simpa using hj); rwa [← Nat.add_assoc, Nat.add_right_comm] at this)
theorem PreQ.get {X : Cx} {Q : Exit → Env → Prop} {ops : Array Oper} {os : List Oper} {E E' : Env} {L : List (Sl × Eff)} (h : PreQ X Q ops os E L E') : ∀ (k : Nat) (o : Oper) (p : Sl × Eff), os[k]? = some o → L[k]? = some p →
  ∀ i, GSQ X Q ops o (envAt (fun j => Nat.blt j (i + k)) L i E) p.1 p.2 ∧ p.2.freshB (envAt (fun j => Nat.blt j (i + k)) L i E) = true := by
 induction h with
 | nil => intro k o p h; simp at h
 | @cons o os E E' S f L h hf t ih =>
  intro k o' p ho hp i
  cases k with
  | zero =>
   simp only [List.getElem?_cons_zero, Option.some.injEq] at ho hp
   subst ho
   subst hp
   have : envAt (fun j => Nat.blt j (i + 0)) ((S, f) :: L) i E = E := envAt_none _ _ _ _ (fun j _ => by
    cases hb : Nat.blt (i + j) (i + 0) with
    | false => rfl
    | true => have := Nat.le_of_ble_eq_true hb; omega)
   rw [this]
   exact ⟨h, hf⟩
  | succ k =>
   simp only [List.getElem?_cons_succ] at ho hp
   have h1 := ih k o' p ho hp (i + 1)
   have hb : Nat.blt i (i + (k + 1)) = true := Nat.ble_eq_true_of_le (by omega)
   simp only [envAt, hb, cond_true]
   have e : i + 1 + k = i + (k + 1) := by omega
   rw [e] at h1
   exact h1
section
variable {X : Cx} {ops : List Oper} {Q : Exit → Env → Prop}
theorem W.drawQ {E E' : Env} {id m : Nat} {L : List (Sl × Eff)} (hm : X.P.follows .mixedOrders = true) (hp : PreQ X Q ops.toArray (ops.take m) E L E') (hc : okDraw ops m L = true) (hq : Ops X ops.toArray (ops.drop m) E' Q) : W X (.region id ops.toArray true) E Q := by
 intro g0 F0 a0 w0 hr0
 refine wp_region_any hm ?_
 simp only [okDraw, Bool.and_eq_true] at hc
 obtain ⟨hB, hL, hP, hlen⟩ := hc
 have hlen := Nat.eq_of_beq_eq_true hlen
 have hpl := hp.length
 have hml : m ≤ ops.length := by rw [hlen, List.length_take] at hpl; omega
 have key : ∀ (r : Nat) (listed : Array Bool) (b : Nat → Bool) (g : Ghost) (F : Foot) (a : Act) (w : World), listed.size = ops.length → (∀ j, j < ops.length → listed.getD j true = b j) → (∀ j, m ≤ j → b j = false) → Cl ops b → ((List.range m).filter fun j => !b j).length = r →
   Rel X.w0 X.F0 X.nt g F (envAt b L 0 E) a w → wpAny X.P .any ops.toArray (QQ X Q) (ops.length - m + r) listed a w := by
  intro r
  induction r with
  | zero =>
   intro listed b g F a w hs hb hbm hcl hr hrel
   have hall : ∀ j, j < m → b j = true := fun j hj => by
    cases hbj : b j with
    | true => rfl
    | false =>
     have : j ∈ (List.range m).filter fun j => !b j := List.mem_filter.2 ⟨List.mem_range.2 hj, by simp [hbj]⟩
     rw [List.eq_nil_of_length_eq_zero hr] at this
     cases this
   have he : envAt b L 0 E = E' := hp.all_ 0 b (fun j hj => by rw [Nat.zero_add]; exact hall j (by omega))
   rw [he] at hrel
   refine wp_post hB hP (ops.length - m) m listed a w (by omega) (Nat.le_refl _) hs (fun j hj => ?_) (hq g F a w hrel)
   rw [hb j hj]
   constructor
   ·intro h
    rcases Nat.lt_or_ge j m with hlt | hge
    ·exact hlt
    ·rw [hbm j hge] at h; cases h
   ·exact hall j
  | succ r ih =>
   intro listed b g F a w hs hb hbm hcl hr hrel
   have hgd : ∀ j, j < ops.length → listed.getD j false = b j := fun j hj => by
    rw [← hb j hj]
    simp [Array.getD_eq_getD_getElem?, Array.getElem?_eq_getElem (show j < listed.size by omega)]
   refine ⟨fun he => ?_, fun i hi => ?_⟩
   ·exfalso
    have hex : ∃ i, i < m ∧ b i = false := by
     cases hf : (List.range m).filter (fun j => !b j) with
     | nil => rw [hf] at hr; simp at hr
     | cons x y =>
      have hx : x ∈ (List.range m).filter (fun j => !b j) := by rw [hf]; exact List.mem_cons_self
      rw [List.mem_filter, List.mem_range] at hx
      exact ⟨x, hx.1, by simpa using hx.2⟩
    have hmin : ∀ k, (∃ i, i ≤ k ∧ i < m ∧ b i = false) → ∃ i, i < m ∧ b i = false ∧ ∀ j, j < i → b j = true := by
     intro k
     induction k with
     | zero =>
      rintro ⟨i, hi, h1, h2⟩
      exact ⟨i, h1, h2, fun j hj => by omega⟩
     | succ k ihk =>
      rintro ⟨i, hi, h1, h2⟩
      by_cases hlow : ∃ j, j ≤ k ∧ j < m ∧ b j = false
      ·exact ihk hlow
      ·refine ⟨i, h1, h2, fun j hj => ?_⟩
       cases hbj : b j with
       | true => rfl
       | false => exact absurd ⟨j, by omega, by omega, hbj⟩ hlow
    obtain ⟨i0, h1, h2⟩ := hex
    obtain ⟨i, him, hbi, hlow⟩ := hmin i0 ⟨i0, Nat.le_refl _, h1, h2⟩
    have hoi : ops[i]? = some ops[i] := List.getElem?_eq_getElem (by omega)
    have : i ∈ Region.ready .any ops.toArray listed := ready_iff.2 ⟨_, hoi, by rw [hb i (by omega)]; exact hbi, fun j hj => by
     have := (okB_lt hB hoi).1 j hj
     rw [hgd j (by omega)]
     exact hlow j this⟩
    rw [he] at this
    cases this
   ·obtain ⟨o, ho, h2, h3⟩ := ready_iff.1 hi
    have hil := (List.getElem?_eq_some_iff.1 ho).1
    rw [hb i hil] at h2
    have hneed : ∀ j ∈ need o, b j = true := fun j hj => by
     have := (okB_lt hB ho).1 j hj
     rw [← hgd j (by omega)]
     exact h3 j hj
    have hbits : ∀ j, ((predL ops).getD i 0).testBit j = true → b j = true := fun j hj => by
     obtain ⟨n, hn, h4⟩ := (okB_lt hB ho).2 j hj
     have hlt := (okB_lt hB ho).1 n hn
     rcases h4 with rfl | h4
     ·exact hneed _ hn
     ·exact hcl.bits hB n n (Nat.le_refl _) (by omega) (hneed n hn) j h4
    have him : i < m := by
     rcases Nat.lt_or_ge i m with hlt | hge
     ·exact hlt
     ·exfalso
      have h4 := List.all_eq_true.1 hP i (List.mem_range.2 hil)
      rw [ho] at h4
      have e1 : Nat.blt i m = false := by
       cases hbb : Nat.blt i m with
       | false => rfl
       | true => have := Nat.le_of_ble_eq_true hbb; omega
      simp only [e1, Bool.false_or] at h4
      by_cases him : i = m
      ·subst him
       simp only [beq_self_true, cond_true, List.all_eq_true, List.mem_range] at h4
       have : (List.range i).filter (fun j => !b j) = [] := List.filter_eq_nil_iff.2 (fun j hj => by
        rw [List.mem_range] at hj
        rw [hbits j (h4 j hj)]
        simp)
       rw [this] at hr
       simp at hr
      ·rw [beq_false_of_ne him, cond_false] at h4
       have := hneed _ (List.elem_iff.1 h4)
       rw [hbm _ (by omega)] at this
       cases this
    obtain ⟨p, hpi⟩ : ∃ p, L[i]? = some p := ⟨L[i], List.getElem?_eq_getElem (by omega)⟩
    have hoT : (ops.take m)[i]? = some o := by rw [List.getElem?_take, if_pos him]; exact ho
    obtain ⟨hG, hFr⟩ := hp.get i o p hoT hpi 0
    have hord : ∀ t, t ∈ keysOf p → ∀ j q, L[j]? = some q → q.2.d = some t → j ≠ i → (j < i → b j = true) ∧ (i < j → b j = false) := by
     intro t ht j q hj hqd hji
     have h5 := List.all_eq_true.1 hL i (List.mem_range.2 (by omega))
     have h6 := List.all_eq_true.1 h5 j (List.mem_range.2 (List.getElem?_eq_some_iff.1 hj).1)
     rw [hpi, hj] at h6
     simp only [hqd, beq_false_of_ne (Ne.symm hji), Bool.false_or, Bool.or_eq_true, Bool.not_eq_true'] at h6
     have h7 : (keysOf p).elem t = true := List.elem_iff.2 ht
     rw [h7] at h6
     simp only [Bool.true_eq_false, false_or] at h6
     constructor
     ·intro hlt
      have e1 : Nat.blt j i = true := Nat.ble_eq_true_of_le hlt
      rw [e1, cond_true] at h6
      exact hbits j h6
     ·intro hlt
      have e1 : Nat.blt j i = false := by
       cases hbb : Nat.blt j i with
       | false => rfl
       | true => have := Nat.le_of_ble_eq_true hbb; omega
      rw [e1, cond_false] at h6
      cases hbj : b j with
      | false => rfl
      | true =>
       have hjl : j < L.length := (List.getElem?_eq_some_iff.1 hj).1
       have := hcl.bits hB j j (Nat.le_refl _) (by omega) hbj i h6
       rw [h2] at this
       cases this
    have hat : ∀ t, t ∈ keysOf p → At t (envAt b L 0 E) (envAt (fun j => Nat.blt j (0 + i)) L 0 E) := fun t ht => envAt_at L 0 E E (At.refl _ _) (fun j q hj hqd => by
     simp only [Nat.zero_add]
     by_cases hji : j = i
     ·subst hji
      rw [h2]
      cases hbb : Nat.blt j j with
      | false => rfl
      | true => have := Nat.le_of_ble_eq_true hbb; omega
     ·obtain ⟨k1, k2⟩ := hord t ht j q hj hqd hji
      rcases Nat.lt_or_ge j i with hlt | hge
      ·rw [k1 hlt]; exact (Nat.ble_eq_true_of_le hlt).symm
      ·rw [k2 (by omega)]
       cases hbb : Nat.blt j i with
       | false => rfl
       | true => have := Nat.le_of_ble_eq_true hbb; omega)
    have hag : p.1.agree (envAt (fun j => Nat.blt j (0 + i)) L 0 E) (envAt b L 0 E) :=
     ⟨fun t ht => (hat t (by simp [keysOf, ht])).1, fun t ht => (hat t (by simp [keysOf, ht])).2.1, fun t ht => (hat t (by simp [keysOf, ht])).2.2⟩
    have hfr : p.2.freshB (envAt b L 0 E) = true := by
     have hd : ∀ d, p.2.d = some d → At d (envAt b L 0 E) (envAt (fun j => Nat.blt j (0 + i)) L 0 E) := fun d hd => hat d (by simp [keysOf, hd])
     revert hFr hd
     generalize envAt (fun j => Nat.blt j (0 + i)) L 0 E = E1
     obtain ⟨S, d, v, nb, nr⟩ := p
     intro hFr hd
     cases d with
     | none => cases nb <;> cases nr <;> rfl
     | some d =>
      obtain ⟨z1, z2, z3⟩ := hd d rfl
      cases nb <;> cases nr <;> simp only [Eff.freshB] at hFr ⊢ <;> simp only [z2, z3] <;> exact hFr
    let b' : Nat → Bool := fun j => if j = i then true else b j
    have hnext : ∀ g' F' a' w', Rel X.w0 X.F0 X.nt g' F' ((envAt b L 0 E).eff p.2) a' w' → wpAny X.P .any ops.toArray (QQ X Q) (ops.length - m + r) (listed.setIfInBounds i true) a' w' := by
     intro g' F' a' w' hr'
     have hup : ∀ t, At t ((envAt b L 0 E).eff p.2) (envAt b' L 0 E) := fun t => envAt_up i L 0 i E p hpi (by omega) h2 (if_pos rfl) (fun j hj => if_neg hj) (fun hpd j q hj hqd hlt => by
      rw [Nat.zero_add]
      exact (hord t (by simp [keysOf, hpd]) j q hj hqd (by omega)).2 hlt)
     refine ih (listed.setIfInBounds i true) b' g' F' a' w' (by simpa using hs) (fun j hj => ?_) (fun j hj => ?_) ?_ ?_ (hr'.congr (fun t => (hup t).1.symm) (fun t => (hup t).2.1.symm) (fun t => (hup t).2.2.symm))
     ·by_cases hji : i = j
      ·subst hji
       simp [b', Array.getD_eq_getD_getElem?, show i < listed.size by omega]
      ·rw [getD_set_ne true hji, hb j hj]
       show b j = if j = i then true else b j
       rw [if_neg (Ne.symm hji)]
     ·simp only [b']
      rw [if_neg (by omega)]
      exact hbm j hj
     ·intro d o' ho' hbd j hj
      simp only [b'] at hbd ⊢
      by_cases hji : j = i
      ·rw [if_pos hji]
      ·rw [if_neg hji]
       by_cases hdi : d = i
       ·subst hdi
        rw [ho] at ho'
        cases ho'
        exact hneed j hj
       ·rw [if_neg hdi] at hbd
        exact hcl d o' ho' hbd j hj
     ·have : ∀ (l : List Nat), l.Nodup → i ∈ l → (l.filter fun j => !b' j).length + 1 = (l.filter fun j => !b j).length := by
       intro l
       induction l with
       | nil => intro _ h; cases h
       | cons x y ihl =>
        intro hn hx
        rw [List.nodup_cons] at hn
        rcases List.mem_cons.1 hx with rfl | hx
        ·have h1 : (y.filter fun j => !b' j) = y.filter fun j => !b j := List.filter_congr (fun j hj => by
          simp only [b']
          rw [if_neg (fun e => hn.1 (by rw [← e]; exact hj))])
         rw [List.filter_cons, List.filter_cons]
         have e1 : b' i = true := if_pos rfl
         simp only [e1, h2, Bool.not_true, Bool.not_false, if_true, Bool.false_eq_true, if_false, List.length_cons, h1]
        ·have hxi : x ≠ i := fun e => hn.1 (e ▸ hx)
         have h1 := ihl hn.2 hx
         rw [List.filter_cons, List.filter_cons]
         have e : b' x = b x := if_neg hxi
         rw [e]
         cases b x
         ·simp only [Bool.not_false, if_true, List.length_cons]; omega
         ·simpa using h1
      have := this (List.range m) List.nodup_range (List.mem_range.2 him)
      omega
    have hstep := hG _ hag hfr g F a w (wpAny X.P .any ops.toArray (QQ X Q) (ops.length - m + r) (listed.setIfInBounds i true)) hrel hnext
    rw [wpOp_eq ho]
    split at hstep
    ·rename_i hw; rw [if_pos hw]; exact .inl hstep
    ·rename_i hw; rw [if_neg hw]; exact hstep
 have hfull : ((List.range m).filter fun j => !(fun _ : Nat => false) j).length = m := by
  have h : (List.range m).filter (fun j => !(fun _ : Nat => false) j) = List.range m := List.filter_eq_self.2 (fun _ _ => rfl)
  rw [h, List.length_range]
 have hstart := key m (Array.replicate ops.length false) (fun _ => false) g0 F0 a0 w0.drew (by simp) (fun j hj => by simp [Array.getD_eq_getD_getElem?, hj]) (fun _ _ => rfl) (fun _ _ _ h => by cases h) hfull (by
  rw [envAt_none (fun _ => false) L 0 E (fun _ _ => rfl)]
  exact hr0.drew)
 have e1 : ops.length - m + m = ops.toArray.size := by simp; omega
 rw [e1] at hstart
 simpa using hstart
end
end Go.Proofs.YtohmhlkdgfcaeaaGreatDoor
namespace Go.Proofs.YtohmhlkdgfcaeaaGreatDoor
open Go Go.RowKit Go.MapKept
section
variable {X : Cx} {E E' : Env} {Q : Exit → Env → Prop} {ops : Array Oper} {rest : List Oper} {o : Oper} {S : Sl} {d : Nat} {x y z : Operand}
theorem g_makeMap {T : TypeId} (ws : List (Int × Int)) (ho : o.op = .makeMap T none) (hd : o.dst = some d) (hdn : Nat.ble (d + 1) X.nt = true) : GS X o E ⟨[], [], []⟩ ⟨some d, .pv (.cache ws), none, none⟩ := by
 intro E1 hag hfr g F a w K Q hr hK
 unfold Oper.wp
 have hrun : (execOp a.eval o).run X.P w = .ok (.value (.map (some w.heap.size))) (w.alloc (.map #[] 0)) := by
  simp [execOp, ho, Instr.makeMap, newObj, Sem.run]
 rw [hrun]
 simp only [Oper.upon, hd]
 let F' : Foot := { c := F.c, mw := fun m ws' => F.mw m ws' ∨ (m = w.heap.size ∧ ws' = ws) }
 have hnew : CacheAt (w.alloc (.map #[] 0)) w.heap.size ws := ⟨#[], 0, (heap_alloc w _).1, fun e he => by simp at he⟩
 have hext : Ext F w (w.alloc (.map #[] 0)) := ⟨rfl, rfl, rfl, by simp, fun k hk _ => (heap_alloc w _).2 k hk, fun k ws' hk hc => by
  have hlt := cacheAt_lt hc
  obtain ⟨es, clk, h1, h2⟩ := hc
  exact ⟨es, clk, ((heap_alloc w _).2 k hlt).trans h1, h2⟩⟩
 have hle : F.le F' w.heap.size := ⟨fun _ _ h => h, fun _ _ h => .inl h, fun _ _ h => .inl h, fun k ws' h => by rcases h with h | ⟨rfl, _⟩; exact .inl h; exact .inr (Nat.le_refl _)⟩
 have hok : F'.ok (w.alloc (.map #[] 0)) := ⟨fun b o hc => Nat.lt_of_lt_of_le (hr.ok.lt b o hc) hext.size, fun m ws' hm => by
   rcases hm with hm | ⟨rfl, rfl⟩
   ·exact hext.mp m ws' hm (hr.ok.at_ m ws' hm)
   ·exact hnew, fun m ws1 ws2 h1 h2 => by
   rcases h1 with h1 | ⟨rfl, rfl⟩ <;> rcases h2 with h2 | ⟨h3, rfl⟩
   ·exact hr.ok.un m _ _ h1 h2
   ·subst h3; exact absurd (cacheAt_lt (hr.ok.at_ _ _ h1)) (Nat.lt_irrefl _)
   ·exact absurd (cacheAt_lt (hr.ok.at_ _ _ h2)) (Nat.lt_irrefl _)
   ·rfl, hr.ok.tab.keep (fun _ _ h => h) (fun b o _ ho _ => ((heap_alloc w _).2 b (Array.getElem?_eq_some_iff.1 ho).1).trans ho)⟩
 exact hK g F' _ _ ((hr.call hext hle hok).put (Nat.le_of_ble_eq_true hdn) (Rd.cache ws w.heap.size (.inr ⟨rfl, rfl⟩) hnew))
theorem Ops.lookup {ts : List (Nat × TV)} {bs : List (Nat × TypeId × List TV)} {rs : List (Nat × RowS)} {T kt et : TypeId} {set : Int} {ws : List (Int × Int)} (hg : o.guard = none) (ho : o.op = .lookup T x y true) (hd : o.dst = some d) (hdn : Nat.ble (d + 1) X.nt = true)
  (hx : evT ⟨ts, bs, rs⟩ x = some (.pv (.cache ws))) (hy : evT ⟨ts, bs, rs⟩ y = some (.pv (.i set))) (hT : X.P.underlying T = some (.map kt et)) (hk : X.P.underlying kt = some (.int .i64)) (hz : (X.P.info? et).bind (·.zero) = some (.agg #[.int .i64 0, .int .i64 0]))
  (hit : Ops X ops rest ⟨(d, .pv (.tup [.agg [.i (commonOf ws set).1, .i (commonOf ws set).2], .b true])) :: ts, bs, rs⟩ Q) (miss : Ops X ops rest ⟨(d, .pv (.tup [.agg [.i 0, .i 0], .b false])) :: ts, bs, rs⟩ Q) : Ops X ops (o :: rest) ⟨ts, bs, rs⟩ Q := fun g F a w hr => by
 simp only [wpList, wantedNone hg, if_true]
 refine .inl ?_
 have h1 := evT_rel hr hx
 have h2 := evT_val hr hy
 generalize hv : a.eval x = v at h1
 cases h1 with
 | cache _ m hm hc =>
  obtain ⟨es, clk, hh, hok⟩ := hc
  obtain ⟨i, hi, hiz⟩ := Option.bind_eq_some_iff.1 hz
  have hkeys : ∀ e ∈ es.toList, IsKey (.int .i64) e.key := fun e he => by
   obtain ⟨s, h3, _⟩ := hok e (by simpa using he)
   rw [h3]; simp [IsKey]
  have hkey : IsKey (.int .i64) (.int .i64 set) := by simp [IsKey]
  unfold Oper.wp
  rcases findNow_spec hkey es.toList 0 hkeys with ⟨q1, q2⟩ | ⟨j, e, q1, q2, q3⟩
  ·have hrun : (execOp a.eval o).run X.P w = .ok (.value (.tuple #[.agg #[.int .i64 0, .int .i64 0], .bool false])) w := by
    simp [execOp, ho, hv, h2, Instr.lookup, run_underlying hT, MapKept.run_getObj_map hh, MapKept.run_checkKey hk hkey, MapKept.run_findKey hk q1, Result.andThen, zeroValue, typeInfo, hi, hiz]
   rw [hrun]
   simp only [Oper.upon, hd]
   exact miss g F _ w (hr.put (Nat.le_of_ble_eq_true hdn) (Rd.tup _ _ (by simp) (by
    intro j c u hc hu
    match j with
    | 0 => simp at hc hu; subst hc hu; exact Rd.agg _ _ (by simp) (fun j c u hc hu => by
      match j with
      | 0 => simp at hc hu; subst hc hu; exact .val _
      | 1 => simp at hc hu; subst hc hu; exact .val _
      | j + 2 => simp at hc)
    | 1 => simp at hc hu; subst hc hu; exact .val _
    | j + 2 => simp at hc)))
  ·obtain ⟨s, h3, h4⟩ := hok e (by simpa using List.mem_of_getElem? q2)
   have hs : s = set := by rw [h3] at q3; simpa using q3
   subst hs
   have hrun : (execOp a.eval o).run X.P w = .ok (.value (.tuple #[.agg #[.int .i64 (commonOf ws s).1, .int .i64 (commonOf ws s).2], .bool true])) w := by
    simp [execOp, ho, hv, h2, Instr.lookup, run_underlying hT, MapKept.run_getObj_map hh, MapKept.run_checkKey hk hkey, MapKept.run_findKey hk q1, Result.andThen, h4]
   rw [hrun]
   simp only [Oper.upon, hd]
   exact hit g F _ w (hr.put (Nat.le_of_ble_eq_true hdn) (Rd.tup _ _ (by simp) (by
    intro j c u hc hu
    match j with
    | 0 => simp at hc hu; subst hc hu; exact Rd.agg _ _ (by simp) (fun j c u hc hu => by
      match j with
      | 0 => simp at hc hu; subst hc hu; exact .val _
      | 1 => simp at hc hu; subst hc hu; exact .val _
      | j + 2 => simp at hc)
    | 1 => simp at hc hu; subst hc hu; exact .val _
    | j + 2 => simp at hc)))
theorem s_mapUpdate {T kt et : TypeId} {set : Int} {ws : List (Int × Int)} {cs : List PV} (ho : o.op = .mapUpdate T x y z) (hd : o.dst = none)
  (hx : evT E x = some (.pv (.cache ws))) (hy : evT E y = some (.pv (.i set))) (hz : evT E z = some (.pv (.agg cs))) (hcs : cs = [.i (commonOf ws set).1, .i (commonOf ws set).2]) (hT : X.P.underlying T = some (.map kt et)) (hk : X.P.underlying kt = some (.int .i64)) : Step X o E E := by
 intro g F a w K Q hr hK
 subst hcs
 have h1 := evT_rel hr hx
 have h2 := evT_val hr hy
 have h3 := rd_flat (vs := [.int .i64 (commonOf ws set).1, .int .i64 (commonOf ws set).2]) (evT_rel hr hz) rfl
 generalize hv : a.eval x = v at h1
 cases h1 with
 | cache _ m hm hc =>
  obtain ⟨es, clk, hh, hok⟩ := hc
  have hkeys : ∀ e ∈ es.toList, IsKey (.int .i64) e.key := fun e he => by
   obtain ⟨s, h3, _⟩ := hok e (by simpa using he)
   rw [h3]; simp [IsKey]
  have hkey : IsKey (.int .i64) (.int .i64 set) := by simp [IsKey]
  have fin : ∀ es' clk', CacheOk ws es' → (execOp a.eval o).run X.P w = .ok .skip { w with heap := w.heap.setIfInBounds m (.map es' clk') } → o.wp X.P a w K Q := by
   intro es' clk' hes hrun
   unfold Oper.wp
   rw [hrun]
   simp only [Oper.upon, hd]
   have hext : Ext F w { w with heap := w.heap.setIfInBounds m (.map es' clk') } := ⟨rfl, rfl, rfl, by simp, fun k hk hnm => (heap_set hh).2 k (fun e => by subst e; exact hnm ⟨_, hm⟩), fun k ws' hk hc => by
    by_cases he : k = m
    ·subst he
     have := hr.ok.un k _ _ hk hm
     subst this
     exact ⟨es', clk', (heap_set hh).1, hes⟩
    ·obtain ⟨es2, clk2, g1, g2⟩ := hc
     exact ⟨es2, clk2, ((heap_set hh).2 k he).trans g1, g2⟩⟩
   exact hK g F _ _ (hr.call hext (Foot.le.refl F _) (hext.ok hr.ok))
  rcases findNow_spec hkey es.toList 0 hkeys with ⟨q1, q2⟩ | ⟨j, e, q1, q2, q3⟩
  ·refine fin (es.push { key := .int .i64 set, val := .agg #[.int .i64 (commonOf ws set).1, .int .i64 (commonOf ws set).2], born := clk }) (clk + 1) ?_ (by simp [execOp, ho, hv, h2, h3, Instr.mapUpdate, run_underlying hT, MapKept.run_getObj_map hh, MapKept.run_checkKey hk hkey, MapKept.run_findKey hk q1, Result.andThen, MapKept.run_setObj_map _ hh])
   intro e he
   rcases Array.mem_push.1 he with he | rfl
   ·exact hok e he
   ·exact ⟨set, rfl, rfl⟩
  ·have hj : es[j]? = some e := by simpa using q2
   refine fin (es.modify j fun e => { e with key := .int .i64 set, val := .agg #[.int .i64 (commonOf ws set).1, .int .i64 (commonOf ws set).2] }) clk ?_ (by simp [execOp, ho, hv, h2, h3, Instr.mapUpdate, run_underlying hT, MapKept.run_getObj_map hh, MapKept.run_checkKey hk hkey, MapKept.run_findKey hk q1, hj, q3, run_keyThatStays hkey, Result.andThen, MapKept.run_setObj_map _ hh])
   intro e' he
   obtain ⟨i, hi⟩ := Array.mem_iff_getElem?.1 he
   rw [Array.getElem?_modify] at hi
   split at hi
   ·obtain ⟨e2, _, rfl⟩ := Option.map_eq_some_iff.1 hi
    exact ⟨set, rfl, rfl⟩
   ·exact hok e' (Array.mem_iff_getElem?.2 ⟨i, hi⟩)
end
end Go.Proofs.YtohmhlkdgfcaeaaGreatDoor
namespace Go.Proofs.YtohmhlkdgfcaeaaGreatDoor
open Go Go.RowKit
structure Ef2 where
 ts : List (Nat × TV)
 bs : List (Nat × TypeId × List TV)
 rs : List (Nat × RowS)
 fb : List Nat
 fr : List Nat
 al : List (Nat × List Nat)
def Env.ef2 (E : Env) (f : Ef2) : Env := ⟨f.ts ++ E.ts, f.bs ++ E.bs, f.rs ++ E.rs⟩
def isRow (k : Nat) : TV → Bool
 | .row k' => Nat.beq k' k
 | .rptr k' _ => Nat.beq k' k
 | .part k' _ _ => Nat.beq k' k
 | _ => false
def Ef2.ks (f : Ef2) : List Nat := f.ts.map (·.1) ++ (f.bs.map (·.1) ++ (f.rs.map (·.1) ++ (f.fb ++ f.fr)))
structure Ef2.fresh (f : Ef2) (E : Env) : Prop where
 fb : ∀ k ∈ f.fb, lk E.bs k = none
 fr : ∀ k ∈ f.fr, lk E.rs k = none
 al : ∀ p ∈ f.al, (∀ t v, lk E.ts t = some v → isRow p.1 v = true → t ∈ p.2) ∧ ∀ b T cs, lk E.bs b = some (T, cs) → ∀ c ∈ cs, isRow p.1 c = false
theorem lk_append {α : Type} (l l' : List (Nat × α)) (t : Nat) : lk (l ++ l') t = (lk l t).or (lk l' t) := by
 induction l with
 | nil => simp [lk]
 | cons p r ih =>
  obtain ⟨k, v⟩ := p
  simp only [List.cons_append, lk_cons, ih]
  split <;> simp
theorem lk_none {α : Type} {l : List (Nat × α)} {t : Nat} (h : t ∉ l.map (·.1)) : lk l t = none := by
 induction l with
 | nil => rfl
 | cons p r ih =>
  obtain ⟨k, v⟩ := p
  simp only [List.map_cons, List.mem_cons, not_or] at h
  rw [lk_cons, if_neg (fun e => h.1 e.symm)]
  exact ih h.2
theorem At.ef2 {t : Nat} {E E' : Env} (h : At t E E') (f : Ef2) : At t (E.ef2 f) (E'.ef2 f) := by
 obtain ⟨h1, h2, h3⟩ := h
 exact ⟨by simp only [Env.ef2, lk_append, h1], by simp only [Env.ef2, lk_append, h2], by simp only [Env.ef2, lk_append, h3]⟩
theorem At.other2 {t : Nat} {E : Env} {f : Ef2} (h : ¬ t ∈ f.ks) : At t (E.ef2 f) E := by
 simp only [Ef2.ks, List.mem_append, not_or] at h
 exact ⟨by simp only [Env.ef2, lk_append, lk_none h.1, Option.none_or], by simp only [Env.ef2, lk_append, lk_none h.2.1, Option.none_or], by simp only [Env.ef2, lk_append, lk_none h.2.2.1, Option.none_or]⟩
def GSR (X : Cx) (Q : Exit → Env → Prop) (ops : Array Oper) (o : Oper) (E : Env) (S : Sl) (f : Ef2) : Prop := ∀ E1, S.agree E E1 → f.fresh E1 → StepQ X Q ops o E1 (E1.ef2 f)
inductive PreR (X : Cx) (Q : Exit → Env → Prop) (ops : Array Oper) : List Oper → Env → List (Sl × Ef2) → Env → Prop
 | nil (E : Env) : PreR X Q ops [] E [] E
 | cons {o : Oper} {os : List Oper} {E E' : Env} {S : Sl} {f : Ef2} {L : List (Sl × Ef2)} (h : GSR X Q ops o E S f) (hf : f.fresh E) (t : PreR X Q ops os (E.ef2 f) L E') : PreR X Q ops (o :: os) E ((S, f) :: L) E'
def keysOf2 (p : Sl × Ef2) : List Nat := p.1.ts ++ p.1.bs ++ p.1.rs ++ p.2.ks
def okPre2 (L : List (Sl × Ef2)) (B : List Nat) : Bool := (List.range L.length).all fun i => (List.range L.length).all fun j => match L[i]?, L[j]? with
 | some p, some q => Nat.beq i j || (q.2.ks.all fun t => !(keysOf2 p).elem t) || (bif Nat.blt j i then (B.getD i 0).testBit j else (B.getD j 0).testBit i)
 | _, _ => true
def alOne (k : Nat) (l : List Nat) (ts : List (Nat × TV)) (bs : List (Nat × TypeId × List TV)) : Bool := (ts.all fun p => !isRow k p.2 || l.elem p.1) && (bs.all fun p => p.2.2.all fun c => !isRow k c)
def alOk (E : Env) (L : List (Sl × Ef2)) : Bool := L.all fun p => p.2.al.all fun q => alOne q.1 q.2 E.ts E.bs && L.all fun r => alOne q.1 q.2 r.2.ts r.2.bs
def okDraw2 (ops : List Oper) (m : Nat) (E : Env) (L : List (Sl × Ef2)) : Bool := okB ops (predL ops) && (okPre2 L (predL ops) && (okPost ops m (predL ops) && (Nat.beq L.length m && alOk E L)))
def envAt2 (b : Nat → Bool) : List (Sl × Ef2) → Nat → Env → Env
 | [], _, E => E
 | p :: L, i, E => envAt2 b L (i + 1) (bif b i then E.ef2 p.2 else E)
theorem envAt2_at {t : Nat} {b b' : Nat → Bool} : ∀ (L : List (Sl × Ef2)) (i : Nat) (E E' : Env), At t E E' → (∀ j p, L[j]? = some p → t ∈ p.2.ks → b (i + j) = b' (i + j)) → At t (envAt2 b L i E) (envAt2 b' L i E')
 | [], i, E, E', h, _ => h
 | p :: L, i, E, E', h, hb => by
  simp only [envAt2]
  refine envAt2_at L (i + 1) _ _ ?_ (fun j q hj hq => by have := hb (j + 1) q (by simpa using hj) hq; rwa [← Nat.add_assoc, Nat.add_right_comm] at this)
  by_cases hp : t ∈ p.2.ks
  ·have := hb 0 p rfl hp
   simp only [Nat.add_zero] at this
   rw [this]
   cases b' i with
   | true => exact h.ef2 p.2
   | false => exact h
  ·have h1 : ∀ (c : Bool) (E : Env), At t (bif c then E.ef2 p.2 else E) E := fun c E => by
    cases c with
    | true => exact At.other2 hp
    | false => exact At.refl _ _
   exact ((h1 _ E).trans h).trans (h1 _ E').symm
theorem envAt2_none (b : Nat → Bool) : ∀ (L : List (Sl × Ef2)) (i : Nat) (E : Env), (∀ j, j < L.length → b (i + j) = false) → envAt2 b L i E = E
 | [], i, E, _ => rfl
 | p :: L, i, E, h => by
  simp only [envAt2]
  have h0 := h 0 (by simp)
  simp only [Nat.add_zero] at h0
  rw [h0]
  exact envAt2_none b L (i + 1) E (fun j hj => by have := h (j + 1) (by simpa using hj); rwa [← Nat.add_assoc, Nat.add_right_comm] at this)
theorem envAt2_up {t : Nat} {b b' : Nat → Bool} (n : Nat) : ∀ (L : List (Sl × Ef2)) (i k : Nat) (E : Env) (p : Sl × Ef2), L[k]? = some p → n = i + k → b n = false → b' n = true → (∀ j, j ≠ n → b' j = b j) →
  (t ∈ p.2.ks → ∀ j q, L[j]? = some q → t ∈ q.2.ks → k < j → b (i + j) = false) → At t ((envAt2 b L i E).ef2 p.2) (envAt2 b' L i E)
 | [], _, _, _, _, h, _, _, _, _, _ => by simp at h
 | q :: L, i, 0, E, p, h, hn, hb, hb', hne, hlate => by
  simp only [List.getElem?_cons_zero, Option.some.injEq] at h
  subst h
  simp only [Nat.add_zero] at hn
  subst hn
  simp only [envAt2, hb, hb', cond_true, cond_false]
  have hsame : ∀ E1 E2, At t E1 E2 → At t (envAt2 b L (n + 1) E1) (envAt2 b' L (n + 1) E2) := fun E1 E2 he => envAt2_at L (n + 1) E1 E2 he (fun j _ _ _ => (hne _ (by omega)).symm)
  by_cases hp : t ∈ q.2.ks
  ·
   have hlate' : ∀ j r, L[j]? = some r → t ∈ r.2.ks → b (n + 1 + j) = false := fun j r hj hr => by
    have := hlate hp (j + 1) r (by simpa using hj) hr (by omega)
    rwa [← Nat.add_assoc, Nat.add_right_comm] at this
   have h1 : At t (envAt2 b L (n + 1) E) E := by
    have := envAt2_at (t := t) (b := b) (b' := fun _ => false) L (n + 1) E E (At.refl _ _) (fun j r hj hr => hlate' j r hj hr)
    rwa [envAt2_none (fun _ => false) L (n + 1) E (fun _ _ => rfl)] at this
   have h2 : At t (envAt2 b' L (n + 1) (E.ef2 q.2)) (E.ef2 q.2) := by
    have := envAt2_at (t := t) (b := b') (b' := fun _ => false) L (n + 1) (E.ef2 q.2) (E.ef2 q.2) (At.refl _ _) (fun j r hj hr => by rw [hne _ (by omega)]; exact hlate' j r hj hr)
    rwa [envAt2_none (fun _ => false) L (n + 1) (E.ef2 q.2) (fun _ _ => rfl)] at this
   exact (h1.ef2 q.2).trans h2.symm
  ·exact (At.other2 hp).trans (hsame _ _ (At.other2 hp).symm)
 | q :: L, i, k + 1, E, p, h, hn, hb, hb', hne, hlate => by
  simp only [List.getElem?_cons_succ] at h
  simp only [envAt2]
  have hi : b' i = b i := hne i (by omega)
  rw [hi]
  exact envAt2_up n L (i + 1) k _ p h (by omega) hb hb' hne (fun hp j r hj hr hlt => by have := hlate hp (j + 1) r (by simpa using hj) hr (by omega); rwa [← Nat.add_assoc, Nat.add_right_comm] at this)
theorem envAt2_ts {t : Nat} {v : TV} {b : Nat → Bool} : ∀ (L : List (Sl × Ef2)) (i : Nat) (E : Env), lk (envAt2 b L i E).ts t = some v → (t, v) ∈ E.ts ∨ ∃ q ∈ L, (t, v) ∈ q.2.ts
 | [], _, E, h => .inl (lk_mem h)
 | p :: L, i, E, h => by
  rcases envAt2_ts L (i + 1) _ h with h1 | ⟨q, hq, h1⟩
  ·cases hb : b i with
   | false => rw [hb] at h1; exact .inl h1
   | true =>
    rw [hb] at h1
    simp only [cond_true, Env.ef2, List.mem_append] at h1
    rcases h1 with h1 | h1
    ·exact .inr ⟨p, List.mem_cons_self, h1⟩
    ·exact .inl h1
  ·exact .inr ⟨q, List.mem_cons_of_mem _ hq, h1⟩
theorem envAt2_bs {t : Nat} {v : TypeId × List TV} {b : Nat → Bool} : ∀ (L : List (Sl × Ef2)) (i : Nat) (E : Env), lk (envAt2 b L i E).bs t = some v → (t, v) ∈ E.bs ∨ ∃ q ∈ L, (t, v) ∈ q.2.bs
 | [], _, E, h => .inl (lk_mem h)
 | p :: L, i, E, h => by
  rcases envAt2_bs L (i + 1) _ h with h1 | ⟨q, hq, h1⟩
  ·cases hb : b i with
   | false => rw [hb] at h1; exact .inl h1
   | true =>
    rw [hb] at h1
    simp only [cond_true, Env.ef2, List.mem_append] at h1
    rcases h1 with h1 | h1
    ·exact .inr ⟨p, List.mem_cons_self, h1⟩
    ·exact .inl h1
  ·exact .inr ⟨q, List.mem_cons_of_mem _ hq, h1⟩
theorem alOk.get {E : Env} {L : List (Sl × Ef2)} (h : alOk E L = true) {p : Sl × Ef2} (hp : p ∈ L) (b : Nat → Bool) (i : Nat) : ∀ q ∈ p.2.al, (∀ t v, lk (envAt2 b L i E).ts t = some v → isRow q.1 v = true → t ∈ q.2) ∧ ∀ k T cs, lk (envAt2 b L i E).bs k = some (T, cs) → ∀ c ∈ cs, isRow q.1 c = false := by
 intro q hq
 have h1 := List.all_eq_true.1 (List.all_eq_true.1 h p hp) q hq
 simp only [Bool.and_eq_true] at h1
 have h2 : ∀ r ∈ L, alOne q.1 q.2 r.2.ts r.2.bs = true := fun r hr => List.all_eq_true.1 h1.2 r hr
 refine ⟨fun t v ht hv => ?_, fun k T cs hk c hc => ?_⟩
 ·have key : ∀ l bs, alOne q.1 q.2 l bs = true → (t, v) ∈ l → t ∈ q.2 := fun l bs ha hm => by
   simp only [alOne, Bool.and_eq_true] at ha
   have := List.all_eq_true.1 ha.1 (t, v) hm
   simp only [hv, Bool.not_true, Bool.false_or] at this
   exact List.elem_iff.1 this
  rcases envAt2_ts L i E ht with hm | ⟨r, hr, hm⟩
  ·exact key _ _ h1.1 hm
  ·exact key _ _ (h2 r hr) hm
 ·have key : ∀ l bs, alOne q.1 q.2 l bs = true → (k, T, cs) ∈ bs → isRow q.1 c = false := fun l bs ha hm => by
   simp only [alOne, Bool.and_eq_true] at ha
   have := List.all_eq_true.1 (List.all_eq_true.1 ha.2 _ hm) c hc
   simpa using this
  rcases envAt2_bs L i E hk with hm | ⟨r, hr, hm⟩
  ·exact key _ _ h1.1 hm
  ·exact key _ _ (h2 r hr) hm
theorem PreR.length {X : Cx} {Q : Exit → Env → Prop} {ops : Array Oper} {os : List Oper} {E E' : Env} {L : List (Sl × Ef2)} (h : PreR X Q ops os E L E') : os.length = L.length := by
 induction h with
 | nil => rfl
 | cons _ _ _ ih => simp [ih]
theorem PreR.all_ {X : Cx} {Q : Exit → Env → Prop} {ops : Array Oper} {os : List Oper} {E E' : Env} {L : List (Sl × Ef2)} (h : PreR X Q ops os E L E') : ∀ (i : Nat) (b : Nat → Bool), (∀ j, j < L.length → b (i + j) = true) → envAt2 b L i E = E' := by
 induction h with
 | nil => intro i b _; rfl
 | cons h hf t ih =>
  intro i b hb
  simp only [envAt2]
  have h0 := hb 0 (by simp)
  simp only [Nat.add_zero] at h0
  rw [h0]
  exact ih (i + 1) b (fun j hj => by have := hb (j + 1) (by simpa using hj); rwa [← Nat.add_assoc, Nat.add_right_comm] at this)
theorem PreR.get {X : Cx} {Q : Exit → Env → Prop} {ops : Array Oper} {os : List Oper} {E E' : Env} {L : List (Sl × Ef2)} (h : PreR X Q ops os E L E') : ∀ (k : Nat) (o : Oper) (p : Sl × Ef2), os[k]? = some o → L[k]? = some p →
  ∀ i, GSR X Q ops o (envAt2 (fun j => Nat.blt j (i + k)) L i E) p.1 p.2 ∧ p.2.fresh (envAt2 (fun j => Nat.blt j (i + k)) L i E) := by
 induction h with
 | nil => intro k o p h; simp at h
 | @cons o os E E' S f L h hf t ih =>
  intro k o' p ho hp i
  cases k with
  | zero =>
   simp only [List.getElem?_cons_zero, Option.some.injEq] at ho hp
   subst ho
   subst hp
   have : envAt2 (fun j => Nat.blt j (i + 0)) ((S, f) :: L) i E = E := envAt2_none _ _ _ _ (fun j _ => by
    cases hb : Nat.blt (i + j) (i + 0) with
    | false => rfl
    | true => have := Nat.le_of_ble_eq_true hb; omega)
   rw [this]
   exact ⟨h, hf⟩
  | succ k =>
   simp only [List.getElem?_cons_succ] at ho hp
   have h1 := ih k o' p ho hp (i + 1)
   have hb : Nat.blt i (i + (k + 1)) = true := Nat.ble_eq_true_of_le (by omega)
   simp only [envAt2, hb, cond_true]
   have e : i + 1 + k = i + (k + 1) := by omega
   rw [e] at h1
   exact h1
section
variable {X : Cx} {ops : List Oper} {Q : Exit → Env → Prop}
theorem W.drawR {E E' : Env} {id m : Nat} {L : List (Sl × Ef2)} (hm : X.P.follows .mixedOrders = true) (hp : PreR X Q ops.toArray (ops.take m) E L E') (hc : okDraw2 ops m E L = true) (hq : Ops X ops.toArray (ops.drop m) E' Q) : W X (.region id ops.toArray true) E Q := by
 intro g0 F0 a0 w0 hr0
 refine wp_region_any hm ?_
 simp only [okDraw2, Bool.and_eq_true] at hc
 obtain ⟨hB, hL, hP, hlen, hal⟩ := hc
 have hlen := Nat.eq_of_beq_eq_true hlen
 have hpl := hp.length
 have hml : m ≤ ops.length := by rw [hlen, List.length_take] at hpl; omega
 have key : ∀ (r : Nat) (listed : Array Bool) (b : Nat → Bool) (g : Ghost) (F : Foot) (a : Act) (w : World), listed.size = ops.length → (∀ j, j < ops.length → listed.getD j true = b j) → (∀ j, m ≤ j → b j = false) → Cl ops b → ((List.range m).filter fun j => !b j).length = r →
   Rel X.w0 X.F0 X.nt g F (envAt2 b L 0 E) a w → wpAny X.P .any ops.toArray (QQ X Q) (ops.length - m + r) listed a w := by
  intro r
  induction r with
  | zero =>
   intro listed b g F a w hs hb hbm hcl hr hrel
   have hall : ∀ j, j < m → b j = true := fun j hj => by
    cases hbj : b j with
    | true => rfl
    | false =>
     have : j ∈ (List.range m).filter fun j => !b j := List.mem_filter.2 ⟨List.mem_range.2 hj, by simp [hbj]⟩
     rw [List.eq_nil_of_length_eq_zero hr] at this
     cases this
   have he : envAt2 b L 0 E = E' := hp.all_ 0 b (fun j hj => by rw [Nat.zero_add]; exact hall j (by omega))
   rw [he] at hrel
   refine wp_post hB hP (ops.length - m) m listed a w (by omega) (Nat.le_refl _) hs (fun j hj => ?_) (hq g F a w hrel)
   rw [hb j hj]
   constructor
   ·intro h
    rcases Nat.lt_or_ge j m with hlt | hge
    ·exact hlt
    ·rw [hbm j hge] at h; cases h
   ·exact hall j
  | succ r ih =>
   intro listed b g F a w hs hb hbm hcl hr hrel
   have hgd : ∀ j, j < ops.length → listed.getD j false = b j := fun j hj => by
    rw [← hb j hj]
    simp [Array.getD_eq_getD_getElem?, Array.getElem?_eq_getElem (show j < listed.size by omega)]
   refine ⟨fun he => ?_, fun i hi => ?_⟩
   ·exfalso
    have hex : ∃ i, i < m ∧ b i = false := by
     cases hf : (List.range m).filter (fun j => !b j) with
     | nil => rw [hf] at hr; simp at hr
     | cons x y =>
      have hx : x ∈ (List.range m).filter (fun j => !b j) := by rw [hf]; exact List.mem_cons_self
      rw [List.mem_filter, List.mem_range] at hx
      exact ⟨x, hx.1, by simpa using hx.2⟩
    have hmin : ∀ k, (∃ i, i ≤ k ∧ i < m ∧ b i = false) → ∃ i, i < m ∧ b i = false ∧ ∀ j, j < i → b j = true := by
     intro k
     induction k with
     | zero =>
      rintro ⟨i, hi, h1, h2⟩
      exact ⟨i, h1, h2, fun j hj => by omega⟩
     | succ k ihk =>
      rintro ⟨i, hi, h1, h2⟩
      by_cases hlow : ∃ j, j ≤ k ∧ j < m ∧ b j = false
      ·exact ihk hlow
      ·refine ⟨i, h1, h2, fun j hj => ?_⟩
       cases hbj : b j with
       | true => rfl
       | false => exact absurd ⟨j, by omega, by omega, hbj⟩ hlow
    obtain ⟨i0, h1, h2⟩ := hex
    obtain ⟨i, him, hbi, hlow⟩ := hmin i0 ⟨i0, Nat.le_refl _, h1, h2⟩
    have hoi : ops[i]? = some ops[i] := List.getElem?_eq_getElem (by omega)
    have : i ∈ Region.ready .any ops.toArray listed := ready_iff.2 ⟨_, hoi, by rw [hb i (by omega)]; exact hbi, fun j hj => by
     have := (okB_lt hB hoi).1 j hj
     rw [hgd j (by omega)]
     exact hlow j this⟩
    rw [he] at this
    cases this
   ·obtain ⟨o, ho, h2, h3⟩ := ready_iff.1 hi
    have hil := (List.getElem?_eq_some_iff.1 ho).1
    rw [hb i hil] at h2
    have hneed : ∀ j ∈ need o, b j = true := fun j hj => by
     have := (okB_lt hB ho).1 j hj
     rw [← hgd j (by omega)]
     exact h3 j hj
    have hbits : ∀ j, ((predL ops).getD i 0).testBit j = true → b j = true := fun j hj => by
     obtain ⟨n, hn, h4⟩ := (okB_lt hB ho).2 j hj
     have hlt := (okB_lt hB ho).1 n hn
     rcases h4 with rfl | h4
     ·exact hneed _ hn
     ·exact hcl.bits hB n n (Nat.le_refl _) (by omega) (hneed n hn) j h4
    have him : i < m := by
     rcases Nat.lt_or_ge i m with hlt | hge
     ·exact hlt
     ·exfalso
      have h4 := List.all_eq_true.1 hP i (List.mem_range.2 hil)
      rw [ho] at h4
      have e1 : Nat.blt i m = false := by
       cases hbb : Nat.blt i m with
       | false => rfl
       | true => have := Nat.le_of_ble_eq_true hbb; omega
      simp only [e1, Bool.false_or] at h4
      by_cases him : i = m
      ·subst him
       simp only [beq_self_true, cond_true, List.all_eq_true, List.mem_range] at h4
       have : (List.range i).filter (fun j => !b j) = [] := List.filter_eq_nil_iff.2 (fun j hj => by
        rw [List.mem_range] at hj
        rw [hbits j (h4 j hj)]
        simp)
       rw [this] at hr
       simp at hr
      ·rw [beq_false_of_ne him, cond_false] at h4
       have := hneed _ (List.elem_iff.1 h4)
       rw [hbm _ (by omega)] at this
       cases this
    obtain ⟨p, hpi⟩ : ∃ p, L[i]? = some p := ⟨L[i], List.getElem?_eq_getElem (by omega)⟩
    have hoT : (ops.take m)[i]? = some o := by rw [List.getElem?_take, if_pos him]; exact ho
    obtain ⟨hG, hFr⟩ := hp.get i o p hoT hpi 0
    have hord : ∀ t, t ∈ keysOf2 p → ∀ j q, L[j]? = some q → t ∈ q.2.ks → j ≠ i → (j < i → b j = true) ∧ (i < j → b j = false) := by
     intro t ht j q hj hqd hji
     have h5 := List.all_eq_true.1 hL i (List.mem_range.2 (by omega))
     have h6 := List.all_eq_true.1 h5 j (List.mem_range.2 (List.getElem?_eq_some_iff.1 hj).1)
     rw [hpi, hj] at h6
     simp only [beq_false_of_ne (Ne.symm hji), Bool.false_or, Bool.or_eq_true] at h6
     have h6 := h6.resolve_left (fun h7 => by
      have := List.all_eq_true.1 h7 t hqd
      rw [List.elem_iff.2 ht] at this
      simp at this)
     constructor
     ·intro hlt
      have e1 : Nat.blt j i = true := Nat.ble_eq_true_of_le hlt
      rw [e1, cond_true] at h6
      exact hbits j h6
     ·intro hlt
      have e1 : Nat.blt j i = false := by
       cases hbb : Nat.blt j i with
       | false => rfl
       | true => have := Nat.le_of_ble_eq_true hbb; omega
      rw [e1, cond_false] at h6
      cases hbj : b j with
      | false => rfl
      | true =>
       have hjl : j < L.length := (List.getElem?_eq_some_iff.1 hj).1
       have := hcl.bits hB j j (Nat.le_refl _) (by omega) hbj i h6
       rw [h2] at this
       cases this
    have hat : ∀ t, t ∈ keysOf2 p → At t (envAt2 b L 0 E) (envAt2 (fun j => Nat.blt j (0 + i)) L 0 E) := fun t ht => envAt2_at L 0 E E (At.refl _ _) (fun j q hj hqd => by
     simp only [Nat.zero_add]
     by_cases hji : j = i
     ·subst hji
      rw [h2]
      cases hbb : Nat.blt j j with
      | false => rfl
      | true => have := Nat.le_of_ble_eq_true hbb; omega
     ·obtain ⟨k1, k2⟩ := hord t ht j q hj hqd hji
      rcases Nat.lt_or_ge j i with hlt | hge
      ·rw [k1 hlt]; exact (Nat.ble_eq_true_of_le hlt).symm
      ·rw [k2 (by omega)]
       cases hbb : Nat.blt j i with
       | false => rfl
       | true => have := Nat.le_of_ble_eq_true hbb; omega)
    have hag : p.1.agree (envAt2 (fun j => Nat.blt j (0 + i)) L 0 E) (envAt2 b L 0 E) :=
     ⟨fun t ht => (hat t (by simp [keysOf2, ht])).1, fun t ht => (hat t (by simp [keysOf2, ht])).2.1, fun t ht => (hat t (by simp [keysOf2, ht])).2.2⟩
    have hfr : p.2.fresh (envAt2 b L 0 E) := by
     refine ⟨fun k hk => ?_, fun k hk => ?_, alOk.get hal (List.mem_of_getElem? hpi) b 0⟩
     ·rw [(hat k (by simp [keysOf2, Ef2.ks, hk])).2.1]; exact hFr.fb k hk
     ·rw [(hat k (by simp [keysOf2, Ef2.ks, hk])).2.2]; exact hFr.fr k hk
    let b' : Nat → Bool := fun j => if j = i then true else b j
    have hnext : ∀ g' F' a' w', Rel X.w0 X.F0 X.nt g' F' ((envAt2 b L 0 E).ef2 p.2) a' w' → wpAny X.P .any ops.toArray (QQ X Q) (ops.length - m + r) (listed.setIfInBounds i true) a' w' := by
     intro g' F' a' w' hr'
     have hup : ∀ t, At t ((envAt2 b L 0 E).ef2 p.2) (envAt2 b' L 0 E) := fun t => envAt2_up i L 0 i E p hpi (by omega) h2 (if_pos rfl) (fun j hj => if_neg hj) (fun hpd j q hj hqd hlt => by
      rw [Nat.zero_add]
      exact (hord t (by simp [keysOf2, hpd]) j q hj hqd (by omega)).2 hlt)
     refine ih (listed.setIfInBounds i true) b' g' F' a' w' (by simpa using hs) (fun j hj => ?_) (fun j hj => ?_) ?_ ?_ (hr'.congr (fun t => (hup t).1.symm) (fun t => (hup t).2.1.symm) (fun t => (hup t).2.2.symm))
     ·by_cases hji : i = j
      ·subst hji
       simp [b', Array.getD_eq_getD_getElem?, show i < listed.size by omega]
      ·rw [getD_set_ne true hji, hb j hj]
       show b j = if j = i then true else b j
       rw [if_neg (Ne.symm hji)]
     ·simp only [b']
      rw [if_neg (by omega)]
      exact hbm j hj
     ·intro d o' ho' hbd j hj
      simp only [b'] at hbd ⊢
      by_cases hji : j = i
      ·rw [if_pos hji]
      ·rw [if_neg hji]
       by_cases hdi : d = i
       ·subst hdi
        rw [ho] at ho'
        cases ho'
        exact hneed j hj
       ·rw [if_neg hdi] at hbd
        exact hcl d o' ho' hbd j hj
     ·have : ∀ (l : List Nat), l.Nodup → i ∈ l → (l.filter fun j => !b' j).length + 1 = (l.filter fun j => !b j).length := by
       intro l
       induction l with
       | nil => intro _ h; cases h
       | cons x y ihl =>
        intro hn hx
        rw [List.nodup_cons] at hn
        rcases List.mem_cons.1 hx with rfl | hx
        ·have h1 : (y.filter fun j => !b' j) = y.filter fun j => !b j := List.filter_congr (fun j hj => by
          simp only [b']
          rw [if_neg (fun e => hn.1 (by rw [← e]; exact hj))])
         rw [List.filter_cons, List.filter_cons]
         have e1 : b' i = true := if_pos rfl
         simp only [e1, h2, Bool.not_true, Bool.not_false, if_true, Bool.false_eq_true, if_false, List.length_cons, h1]
        ·have hxi : x ≠ i := fun e => hn.1 (e ▸ hx)
         have h1 := ihl hn.2 hx
         rw [List.filter_cons, List.filter_cons]
         have e : b' x = b x := if_neg hxi
         rw [e]
         cases b x
         ·simp only [Bool.not_false, if_true, List.length_cons]; omega
         ·simpa using h1
      have := this (List.range m) List.nodup_range (List.mem_range.2 him)
      omega
    have hstep := hG _ hag hfr g F a w (wpAny X.P .any ops.toArray (QQ X Q) (ops.length - m + r) (listed.setIfInBounds i true)) hrel hnext
    rw [wpOp_eq ho]
    split at hstep
    ·rename_i hw; rw [if_pos hw]; exact .inl hstep
    ·rename_i hw; rw [if_neg hw]; exact hstep
 have hfull : ((List.range m).filter fun j => !(fun _ : Nat => false) j).length = m := by
  have h : (List.range m).filter (fun j => !(fun _ : Nat => false) j) = List.range m := List.filter_eq_self.2 (fun _ _ => rfl)
  rw [h, List.length_range]
 have hstart := key m (Array.replicate ops.length false) (fun _ => false) g0 F0 a0 w0.drew (by simp) (fun j hj => by simp [Array.getD_eq_getD_getElem?, hj]) (fun _ _ => rfl) (fun _ _ _ h => by cases h) hfull (by
  rw [envAt2_none (fun _ => false) L 0 E (fun _ _ => rfl)]
  exact hr0.drew)
 have e1 : ops.length - m + m = ops.toArray.size := by simp; omega
 rw [e1] at hstart
 simpa using hstart
end
end Go.Proofs.YtohmhlkdgfcaeaaGreatDoor
namespace Go.Proofs.YtohmhlkdgfcaeaaGreatDoor
open Go Go.RowKit
section
variable {X : Cx} {Q : Exit → Env → Prop} {ops : Array Oper} {o : Oper} {os : List Oper} {ts : List (Nat × TV)} {bs : List (Nat × TypeId × List TV)} {rs : List (Nat × RowS)} {E E' : Env} {S : Sl} {d : Nat} {vv : TV} {L : List (Sl × Ef2)} {x y : Operand}
theorem PreR.v (h : GSQ X Q ops o ⟨ts, bs, rs⟩ S ⟨some d, vv, none, none⟩) (t : PreR X Q ops os ⟨(d, vv) :: ts, bs, rs⟩ L E') : PreR X Q ops (o :: os) ⟨ts, bs, rs⟩ ((S, ⟨[(d, vv)], [], [], [], [], []⟩) :: L) E' :=
 .cons (fun E1 hag _ => h E1 hag rfl) ⟨by simp, by simp, by simp⟩ t
theorem PreR.b {nb : TypeId × List TV} (h : GSQ X Q ops o ⟨ts, bs, rs⟩ S ⟨some d, vv, some nb, none⟩) (hf : (lk bs d).isNone = true) (t : PreR X Q ops os ⟨(d, vv) :: ts, (d, nb) :: bs, rs⟩ L E') : PreR X Q ops (o :: os) ⟨ts, bs, rs⟩ ((S, ⟨[(d, vv)], [(d, nb)], [], [d], [], []⟩) :: L) E' :=
 .cons (fun E1 hag hfr => h E1 hag (by simpa [Eff.freshB] using hfr.fb d (by simp))) ⟨by simpa using hf, by simp, by simp⟩ t
theorem PreR.r {nr : RowS} (h : GSQ X Q ops o ⟨ts, bs, rs⟩ S ⟨some d, vv, none, some nr⟩) (hf : (lk rs d).isNone = true) (t : PreR X Q ops os ⟨(d, vv) :: ts, bs, (d, nr) :: rs⟩ L E') : PreR X Q ops (o :: os) ⟨ts, bs, rs⟩ ((S, ⟨[(d, vv)], [], [(d, nr)], [], [d], []⟩) :: L) E' :=
 .cons (fun E1 hag hfr => h E1 hag (by simpa [Eff.freshB] using hfr.fr d (by simp))) ⟨by simp, by simpa using hf, by simp⟩ t
theorem PreR.sB {T T' : TypeId} {k off : Nat} {cs ps : List TV} {v : TV} (hg : o.guard = none) (ho : o.op = .store T x y) (hd : o.dst = none) (hx : evT ⟨ts, bs, rs⟩ x = some (.box k off)) (hk : lk bs k = some (T', cs)) (hy : evT ⟨ts, bs, rs⟩ y = some v) (hv : v.cells = some ps)
  (hs : SzIs X.P T ps.length) (hl : Nat.ble (off + ps.length) cs.length = true) (h1 : ps.all TV.one = true) (t : PreR X Q ops os ⟨ts, (k, T', spl cs off ps) :: bs, rs⟩ L E') :
  PreR X Q ops (o :: os) ⟨ts, bs, rs⟩ ((⟨opT x ++ opT y, [k], []⟩, ⟨[], [(k, T', spl cs off ps)], [], [], [], []⟩) :: L) E' := by
 refine .cons ?_ ⟨by simp, by simp, by simp⟩ t
 intro E1 hag _ g F a w K hr hK
 rw [if_pos (wantedNone hg)]
 exact s_storeB (ts := E1.ts) (bs := E1.bs) (rs := E1.rs) ho hd ((evT_agree hag (fun t ht => List.mem_append_left _ ht)).trans hx) ((hag.bs k List.mem_cons_self).trans hk) ((evT_agree hag (fun t ht => List.mem_append_right _ ht)).trans hy) hv hs hl h1 g F a w K (QQ X Q) hr hK
variable {α : Type} {enc : α → List PV}
theorem isRow_sub {k : Nat} {v : TV} (h : isRow k v = false) : v.sub k .junk = v := by
 cases v with
 | row k' => simp only [isRow] at h; simp [TV.sub, h]
 | rptr k' o => simp only [isRow] at h; simp [TV.sub, h]
 | part k' o n => simp only [isRow] at h; simp [TV.sub, h]
 | _ => rfl
theorem lk_mapj (l : List Nat) (t : Nat) : lk (l.map fun t => (t, TV.pv PV.junk)) t = if t ∈ l then some (.pv .junk) else none := by
 induction l with
 | nil => rfl
 | cons a r ih =>
  rw [List.map_cons, lk_cons, ih]
  by_cases h : a = t
  ·subst h; simp
  ·simp [h, Ne.symm h]
theorem PreR.aR {t T T2 : TypeId} {k k2 sz : Nat} {l l2 l3 : List α} {es2 : List (List PV)} (al : List Nat) (hq : app l l2 = some l3) (hg : o.guard = none) (ho : o.op = .call { callee := .builtin .append, args := #[x, y], argTypes := #[t, t] }) (hd : o.dst = some d) (hdn : Nat.ble (d + 1) X.nt = true)
  (hx : evT ⟨ts, bs, rs⟩ x = some (.row k)) (hk : lk rs k = some ⟨T, sz, l.map enc⟩) (hy : evT ⟨ts, bs, rs⟩ y = some (.row k2)) (hk2 : lk rs k2 = some ⟨T2, sz, es2⟩) (hes : es2 = l2.map enc) (hT : ElX X.P t T sz) (hone : ∀ q, (enc q).all PV.one = true)
  (hal : (al.all fun t => match lk ts t with | some (.row k') => Nat.beq k' k | _ => false) = true) (hal2 : alOne k (d :: al) ts bs = true) (tl : PreR X Q ops os ⟨(d, .row k) :: (al.map (fun t => (t, TV.pv PV.junk)) ++ ts), bs, (k, ⟨T, sz, l3.map enc⟩) :: rs⟩ L E') :
  PreR X Q ops (o :: os) ⟨ts, bs, rs⟩ ((⟨opT x ++ opT y ++ al, [], [k, k2]⟩, ⟨(d, .row k) :: al.map (fun t => (t, TV.pv PV.junk)), [], [(k, ⟨T, sz, l3.map enc⟩)], [], [], [(k, d :: al)]⟩) :: L) E' := by
 have hfresh : ∀ (E1 : Env), alOne k (d :: al) E1.ts E1.bs = true → (∀ t v, lk E1.ts t = some v → isRow k v = true → t ∈ d :: al) ∧ ∀ b T cs, lk E1.bs b = some (T, cs) → ∀ c ∈ cs, isRow k c = false := fun E1 h => by
  simp only [alOne, Bool.and_eq_true] at h
  refine ⟨fun t v ht hv => ?_, fun b T cs hb c hc => ?_⟩
  ·have := List.all_eq_true.1 h.1 _ (lk_mem ht)
   simp only [hv, Bool.not_true, Bool.false_or] at this
   exact List.elem_iff.1 this
  ·have := List.all_eq_true.1 (List.all_eq_true.1 h.2 _ (lk_mem hb)) c hc
   simpa using this
 refine .cons ?_ ⟨by simp, by simp, fun p hp => by simp only [List.mem_singleton] at hp; subst hp; exact hfresh _ hal2⟩ tl
 intro E1 hag hfr g F a w K hr hK
 rw [if_pos (wantedNone hg)]
 have hh := s_appendR (ts := E1.ts) (bs := E1.bs) (rs := E1.rs) hq ho hd hdn ((evT_agree hag (fun t ht => List.mem_append_left _ (List.mem_append_left _ ht))).trans hx) ((hag.rs k (by simp)).trans hk) ((evT_agree hag (fun t ht => List.mem_append_left _ (List.mem_append_right _ ht))).trans hy) ((hag.rs k2 (by simp)).trans hk2) hes hT hone
 obtain ⟨ha1, ha2⟩ := hfr.al (k, d :: al) (by simp)
 refine hh g F a w K (QQ X Q) hr (fun g' F' a' w' hr' => hK g' F' a' w' (hr'.congr ?_ ?_ (fun _ => rfl)))
 ·intro t
  simp only [Env.ef2, List.cons_append, lk_cons, lk_append, lk_mapj, Env.sub, lk_map]
  by_cases hdt : d = t
  ·simp [hdt]
  ·simp only [if_neg hdt]
   by_cases hta : t ∈ al
   ·have h1 := List.all_eq_true.1 hal t hta
    have h2 : lk E1.ts t = lk ts t := hag.ts t (List.mem_append_right _ hta)
    rw [h2]
    revert h1
    cases lk ts t with
    | none => simp
    | some v =>
     cases v with
     | row k' => intro h1; simp only at h1; simp [hta, TV.sub, h1]
     | _ => simp
   ·simp only [if_neg hta, Option.none_or]
    cases h1 : lk E1.ts t with
    | none => rfl
    | some v =>
     have : isRow k v = false := by
      cases hv : isRow k v with
      | false => rfl
      | true => have := ha1 t v h1 hv; simp [hta, Ne.symm hdt] at this
     simp [isRow_sub this]
 ·intro b
  rw [Env.sub_bs_eq]
  simp only [Env.ef2, List.nil_append]
  cases h1 : lk E1.bs b with
  | none => rfl
  | some p =>
   obtain ⟨T', cs⟩ := p
   have : cs.map (TV.sub k .junk) = cs := by
    apply List.ext_getElem (by simp)
    intro j q1 q2
    rw [List.getElem_map]
    exact isRow_sub (ha2 b T' cs h1 _ (List.getElem_mem q2))
   simp [this]
end
end Go.Proofs.YtohmhlkdgfcaeaaGreatDoor
namespace Go.Proofs.YtohmhlkdgfcaeaaGreatDoor
open Go Go.RowKit
def FunOwn (P : Program) (f : FuncId) (args : List PV) (T : TypeId) (sz : Nat) (es : List (List PV)) : Prop :=
 ∀ (w : World) (F : Foot) (vs : Array Value), F.ok w → RdL w F args vs →
  Calls P f vs w fun e w' => ∃ v inner F', e = .returned v ∧ Ext F w w' ∧ F.le F' w.heap.size ∧ F'.ok w' ∧ w'.ownsRow w.heap.size T sz v es.length inner ∧ Flat w' F' sz es inner ∧ ∀ b, v.ownBlock = some b → ∀ o, ¬ F'.c b o
def FinOwn (fn : Func) (T : TypeId) (sz : Nat) (es : List (List PV)) : Exit → Env → Prop
 | .normal, E => ∃ t k, fn.results = #[.tmp t] ∧ lk E.ts t = some (.row k) ∧ lk E.rs k = some ⟨T, sz, es⟩
 | .ret, E => ∃ t k, fn.results = #[.tmp t] ∧ lk E.ts t = some (.row k) ∧ lk E.rs k = some ⟨T, sz, es⟩
 | _, _ => False
theorem own_of_W {P : Program} {f : FuncId} {fn : Func} {c : Code} {args : List PV} {T : TypeId} {sz : Nat} {es : List (List PV)} (nt : Nat) (hf : P.funcs[f]? = some fn) (hb : fn.body = some c) (hnt : fn.ntmps = nt) (hn : Nat.ble args.length nt = true)
  (h : ∀ w0 F0, W ⟨P, w0, F0, nt⟩ c ⟨args.zipIdx.map fun p => (p.2, .pv p.1), [], []⟩ (FinOwn fn T sz es)) : FunOwn P f args T sz es := by
 subst hnt
 have hn := Nat.le_of_ble_eq_true hn
 intro w F vs hok hvs
 refine calls_of_wp hf hb ?_
 have hR : Rel w F fn.ntmps ⟨fun _ => none, fun _ => none⟩ F ⟨args.zipIdx.map fun p => (p.2, .pv p.1), [], []⟩ { tmps := vs ++ Array.replicate (fn.ntmps - vs.size) undef, defers := [] } w := by
  refine ⟨rfl, ?_, ?_, ?_, fun _ _ => rfl, ?_, ?_, fun _ _ => rfl, ?_, ?_, hok, Ext.refl _ _, Foot.le.refl _ _⟩
  ·simp [hvs.1]; omega
  ·intro t v hv
   have hm := lk_mem hv
   rw [List.mem_map] at hm
   obtain ⟨⟨x, i⟩, hm1, hm2⟩ := hm
   simp only [Prod.mk.injEq] at hm2
   obtain ⟨rfl, rfl⟩ := hm2
   have hx : args[i]? = some x := List.mem_zipIdx_iff_getElem?.1 hm1
   have hi : i < vs.size := by have := (List.getElem?_eq_some_iff.1 hx).1; rw [hvs.1]; exact this
   refine ⟨vs[i], ?_, hvs.2 i x _ hx (by rw [Array.getElem?_eq_getElem hi])⟩
   simp only []
   rw [Array.getElem?_append_left hi, Array.getElem?_eq_getElem hi]
  ·intro k T cs hk; cases hk
  ·intro k k' b hk; cases hk
  ·intro k R hk; cases hk
  ·intro k k' v v' b hk; cases hk
  ·intro k k' v b hk; cases hk
 refine wp_mono (h w F _ _ _ _ hR) ?_
 intro e a w' hq
 obtain ⟨g', F', E', hr, hfin⟩ := hq
 have hres : ∀ t k, fn.results = #[.tmp t] → lk E'.ts t = some (.row k) → lk E'.rs k = some ⟨T, sz, es⟩ → a.defers = [] ∧ ∃ v, (results fn a.tmps).run P w' = .ok v w' ∧ ∃ v' inner F', (Ending.returned v) = .returned v' ∧ Ext F w w' ∧ F.le F' w.heap.size ∧ F'.ok w' ∧ w'.ownsRow w.heap.size T sz v' es.length inner ∧ Flat w' F' sz es inner ∧ ∀ b, v'.ownBlock = some b → ∀ o, ¬ F'.c b o := by
  intro t k hr1 hr2 hr3
  obtain ⟨u, q1, q2⟩ := hr.ts t _ hr2
  obtain ⟨v, inner, p1, p2, p3, p4⟩ := hr.rs k _ hr3
  have : g'.rw k = some u := q2
  rw [p1] at this
  cases this
  refine ⟨hr.dfr, u, ?_, u, inner, F', rfl, hr.ext, hr.le, hr.ok, p2, p3, p4⟩
  rw [results_eq, Sem.run_bind, hr1]
  simp [resOf, Array.getD_eq_getD_getElem?, q1]
 cases e with
 | normal => obtain ⟨t, k, h1, h2, h3⟩ := hfin; exact hres t k h1 h2 h3
 | ret => obtain ⟨t, k, h1, h2, h3⟩ := hfin; exact hres t k h1 h2 h3
 | panic ch => exact hfin.elim
 | exit id => exact hfin.elim
 | goto l => exact hfin.elim
 | outgrown => exact hfin.elim
section
variable {X : Cx} {E E' : Env} {Q : Exit → Env → Prop} {ops : Array Oper} {rest : List Oper} {o : Oper} {S : Sl} {d : Nat} {x y : Operand}
variable {ts : List (Nat × TV)} {bs : List (Nat × TypeId × List TV)} {rs : List (Nat × RowS)}
theorem g_callRow2 {f : FuncId} {xs : List Operand} {tys : Array TypeId} {args : List PV} {T : TypeId} {sz : Nat} {es : List (List PV)} (ho : o.op = .call { callee := .value (.func f), args := xs.toArray, argTypes := tys }) (hd : o.dst = some d) (hdn : Nat.ble (d + 1) X.nt = true)
  (hc : Callable X.P f) (ha : unpvO (xs.map (evT E)) = some args) (hF : FunOwn X.P f args T sz es) : GS X o E ⟨xs.flatMap opT, [], []⟩ ⟨some d, .row d, none, some ⟨T, sz, es⟩⟩ := by
 intro E1 hag hfr g F a w K Q hr hK
 simp only [Eff.freshB, Option.isNone_iff_eq_none] at hfr
 obtain ⟨l1, l2⟩ := args_rel (X := X) ha (fun t ht => ht) E1 g F a w hag hr
 unfold Oper.wp
 simp only [execOp, ho, resolve, Act.eval, Deferred.ofValue, Sem.run_bind, Sem.run_pure, Result.andThen_ok, invoke, Array.append_empty, run_enter hc, Oper.upon, hd]
 refine (hF w F _ hr.ok ?_).mono ?_
 ·refine ⟨by simpa using l1, fun j c v hj hv => l2 j c v hj ?_⟩
  simpa using hv
 ·rintro e w' ⟨v, inner, F', rfl, h1, h1a, h1b, h2, h3, h4⟩
  have hr1 := hr.call h1 h1a h1b
  have hfresh : ∀ b, v.ownBlock = some b → w.heap.size ≤ b := fun b hb => by
   rcases h2.2 with ⟨rfl, _⟩ | ⟨q, cap, cur, rfl, hq, _⟩
   ·simp [Value.ownBlock] at hb
   ·simp [Value.ownBlock] at hb; subst hb; exact hq
  have h2' : w'.ownsRow X.w0.heap.size T sz v es.length inner := by
   refine ⟨h2.1, ?_⟩
   rcases h2.2 with hn | ⟨q, cap, cur, rfl, hq, rest⟩
   ·exact .inl hn
   ·exact .inr ⟨q, cap, cur, rfl, Nat.le_trans hr.ext.size hq, rest⟩
  have hr2 := hr1.addrow (k := d) (R := ⟨T, sz, es⟩) hfr h2' h3 (fun b hb => by
   have hle := hfresh b hb
   refine ⟨fun k hk => ?_, fun k v' hk hb' => ?_, fun q hq => h4 b hb q hq⟩
   ·have := (hr.bx_lt hk).1; omega
   ·have := (hr.rw_lt hk hb').1; omega)
  exact hK _ F' _ w' (hr2.put (Nat.le_of_ble_eq_true hdn) (if_pos rfl))
theorem Ops.eqnil {T T' e : TypeId} {es : List (List PV)} (hg : o.guard = none) (ho : o.op = .binOp .eql T x y T') (hd : o.dst = some d) (hdn : Nat.ble (d + 1) X.nt = true) (hx : evT ⟨ts, bs, rs⟩ x = some (.pv (.sl es))) (hy : evT ⟨ts, bs, rs⟩ y = some (.pv (.val (.slice none 0 0)))) (hT : X.P.underlying T = some (.slice e))
  (h : ∀ b, (b = true → es = []) → Ops X ops rest ⟨(d, .pv (.b b)) :: ts, bs, rs⟩ Q) : Ops X ops (o :: rest) ⟨ts, bs, rs⟩ Q := fun g F a w hr => by
 simp only [wpList, wantedNone hg, if_true]
 refine .inl ?_
 have h1 := evT_rel hr hx
 have h2 := evT_val hr hy
 generalize hv : a.eval x = v at h1
 cases h1 with
 | sl _ A n cap sz ad us hn hcap hA hsz hc hp hrr =>
  unfold Oper.wp
  have hrun : (execOp a.eval o).run X.P w = .ok (.value (.bool A.isNone)) w := by
   simp [execOp, ho, hv, h2, eqGuard, binOp, run_equal_slice_nil _ _ _ _ _ _ hT]
  rw [hrun]
  simp only [Oper.upon, hd]
  refine h A.isNone (fun hA' => ?_) g F _ w (hr.put (Nat.le_of_ble_eq_true hdn) (Rd.val _))
  cases es with
  | nil => rfl
  | cons p q =>
   have := (hA (by rw [hn]; simp)).1
   rw [this] at hA'
   simp at hA'
end
end Go.Proofs.YtohmhlkdgfcaeaaGreatDoor
namespace Go.Proofs.YtohmhlkdgfcaeaaGreatDoor
open Go Go.RowKit
section
variable {w0 : World} {F0 : Foot} {nt : Nat} {g : Ghost} {F : Foot} {E : Env} {a : Act} {w w' : World}
theorem Rel.shareM (h : Rel w0 F0 nt g F E a w) {k : Nat} {R : RowS} (hk : lk E.rs k = some R) :
  ∃ g' F', Rel w0 F0 nt g' F' { E.sub k (.sl R.es) with rs := dropK k E.rs } a w ∧ F'.mw = F.mw := by
 obtain ⟨v, inner, hv, ho, hf, hnF⟩ := h.rs k R hk
 let F' : Foot := { c := fun b o => F.c b o ∨ v.ownBlock = some b, mw := F.mw }
 let g' : Ghost := { g with rw := fun k' => if k' = k then none else g.rw k' }
 have hrd : Rd w F' (.sl R.es) v := rd_of_row ho hf (fun _ _ h => .inl h) (fun _ _ h => h) (fun b o hb => .inr hb)
 have hup : ∀ {x : PV} {u : Value}, Rd w F x u → Rd w F' x u := fun hx => Rd.mono (F := F) (F' := F') (fun _ _ h => Or.inl h) (fun _ _ h => h) (fun _ _ _ h => h) (fun _ _ _ h => h) hx
 have hrt : ∀ {x : TV} {u : Value}, RelT w F g x u → RelT w F' g' (x.sub k (.sl R.es)) u := by
  intro x u hx
  cases x with
  | pv x => exact hup hx
  | box k' o => exact hx
  | row k' =>
   by_cases he : k' = k
   ·subst he
    simp only [TV.sub, beq_self_true, cond_true]
    have : v = u := Option.some.inj (hv.symm.trans hx)
    subst this
    exact hrd
   ·simp only [TV.sub, beq_false_of_ne he, cond_false]
    exact (if_neg he).trans hx
  | rptr k' o =>
   by_cases he : k' = k
   ·subst he; simp only [TV.sub, beq_self_true, cond_true]; exact Rd.junk _
   ·simp only [TV.sub, beq_false_of_ne he, cond_false]; obtain ⟨r, b, h1, h2, h3⟩ := hx; exact ⟨r, b, (if_neg he).trans h1, h2, h3⟩
  | part k' o n =>
   by_cases he : k' = k
   ·subst he; simp only [TV.sub, beq_self_true, cond_true]; exact Rd.junk _
   ·simp only [TV.sub, beq_false_of_ne he, cond_false]; obtain ⟨r, b, c, h1, h2, h3⟩ := hx; exact ⟨r, b, c, (if_neg he).trans h1, h2, h3⟩
 refine ⟨g', F', ⟨h.dfr, h.sz, ?_, ?_, ?_, h.bi, ?_, ?_, ?_, ?_, ?_, ?_, ?_⟩, rfl⟩
 ·intro t x hx
  obtain ⟨x', h1, rfl⟩ := Env.sub_ts hx
  obtain ⟨u, h2, h3⟩ := h.ts t x' h1
  exact ⟨u, h2, hrt h3⟩
 ·intro k' T' cs2 hk'
  obtain ⟨cs', h0, rfl⟩ := Env.sub_bs hk'
  obtain ⟨b', us2, h1, h2, h3, h4, h5, h6⟩ := h.bs k' T' cs' h0
  refine ⟨b', us2, h1, h2, by simpa using h3, fun j c u hc hu => ?_, h5, fun o hc => ?_⟩
  ·rw [List.getElem?_map] at hc
   obtain ⟨c', hc', rfl⟩ := Option.map_eq_some_iff.1 hc
   exact hrt (h4 j c' u hc' hu)
  ·rcases hc with hc | hc
   ·exact h6 o hc
   ·exact h.rb _ _ _ _ hv hc h1
 ·intro k' hk'
  simp only [] at hk'
  rw [Env.sub_bs_eq, Option.map_eq_none_iff] at hk'
  exact h.bd k' hk'
 ·intro k' R2 hk'
  simp only [lk_dropK] at hk'
  by_cases he : k' = k
  ·rw [if_pos he] at hk'; cases hk'
  ·rw [if_neg he] at hk'
   obtain ⟨v2, inner2, h1, h2, h3, h4⟩ := h.rs k' R2 hk'
   refine ⟨v2, inner2, (if_neg he).trans h1, h2, ⟨h3.1, h3.2.1, fun i e j c u g1 g2 g3 => hup (h3.2.2 i e j c u g1 g2 g3)⟩, fun b hb o hc => ?_⟩
   rcases hc with hc | hc
   ·exact h4 b hb o hc
   ·exact he (h.ri _ _ _ _ _ h1 hv hb hc)
 ·intro k' hk'
  simp only [lk_dropK] at hk'
  show (if k' = k then none else g.rw k') = none
  by_cases he : k' = k
  ·rw [if_pos he]
  ·rw [if_neg he] at hk' ⊢; exact h.rd k' hk'
 ·intro k1 k2 v1 v2 b h1 h2 h3 h4
  have e1 : k1 ≠ k := fun e => by simp only [g', if_pos e] at h1; cases h1
  have e2 : k2 ≠ k := fun e => by simp only [g', if_pos e] at h2; cases h2
  simp only [g', if_neg e1, if_neg e2] at h1 h2
  exact h.ri _ _ _ _ _ h1 h2 h3 h4
 ·intro k1 k2 v1 b h1 h2 h3
  have e1 : k1 ≠ k := fun e => by simp only [g', if_pos e] at h1; cases h1
  simp only [g', if_neg e1] at h1
  exact h.rb _ _ _ _ h1 h2 h3
 ·exact ⟨fun b o hc => by rcases hc with hc | hc; exact h.ok.lt b o hc; exact (h.rw_lt hv hc).1, h.ok.at_, h.ok.un, h.ok.tab.keep (fun _ _ h => .inl h) (fun _ _ _ h _ => h)⟩
 ·exact h.ext
 ·exact ⟨fun b o hc => .inl (h.le.c b o hc), h.le.m, fun b o hc => by rcases hc with hc | hc; exact h.le.cn b o hc; exact .inr (h.rw_lt hv hc).2.1, h.le.mn⟩
end
theorem Rel.freezeM {w0 : World} {F0 : Foot} {nt : Nat} {g : Ghost} {F : Foot} {a : Act} {w : World} {E : Env} {k : Nat} {T : TypeId} {cs : List PV} (hk : lk E.bs k = some (T, cs.map .pv)) (h : Rel w0 F0 nt g F E a w) : ∃ g' F', Rel w0 F0 nt g' F' (E.fz k cs) a w ∧ F'.mw = F.mw := by
 obtain ⟨b, us, h1, h2, h3, h4, h5, h6⟩ := h.bs k _ _ hk
 let F' : Foot := { c := fun b' o => F.c b' o ∨ b' = b, mw := F.mw }
 let g' : Ghost := { g with bx := fun k' => if k' = k then none else g.bx k' }
 have hup : ∀ {x : PV} {u : Value}, Rd w F x u → Rd w F' x u := fun hx => Rd.mono (F := F) (F' := F') (fun _ _ h => Or.inl h) (fun _ _ h => h) (fun _ _ _ h => h) (fun _ _ _ h => h) hx
 have hcell : ∀ j, w.cell? ⟨b, j, none⟩ = us[j]? := fun j => cell_of_row w b j us T (0, 0) h2
 have hrt : ∀ {x : TV} {u : Value}, RelT w F g x u → RelT w F' g' (x.fz k cs) u := by
  intro x u hx
  cases x with
  | pv x => exact hup hx
  | row k' => exact hx
  | rptr k' o => exact hx
  | part k' o n => exact hx
  | box k' o =>
   by_cases he : k' = k
   ·subst he
    simp only [TV.fz, beq_self_true, cond_true]
    obtain ⟨b', g1, rfl⟩ := hx
    rw [h1] at g1
    cases g1
    refine .ref (cs.drop o) ⟨b, o, none⟩ (fun j => us.getD (o + j) undef) ?_ ?_ ?_
    ·intro j c hj
     rw [List.getElem?_drop] at hj
     have hlt : o + j < us.size := by have := (List.getElem?_eq_some_iff.1 hj).1; simp at h3; omega
     have hadd : (⟨b, o, none⟩ : Addr).add j = ⟨b, o + j, none⟩ := by unfold Addr.add; split <;> simp_all
     rw [hadd, hcell, Array.getElem?_eq_getElem hlt]
     simp [Array.getD_eq_getD_getElem?, Array.getElem?_eq_getElem hlt]
    ·intro j c hj
     right
     unfold Addr.add; split <;> rfl
    ·intro j c hj
     rw [List.getElem?_drop] at hj
     have hlt : o + j < us.size := by have := (List.getElem?_eq_some_iff.1 hj).1; simp at h3; omega
     have := h4 (o + j) (.pv c) us[o + j] (by rw [List.getElem?_map, hj]; rfl) (Array.getElem?_eq_getElem hlt)
     simp only [Array.getD_eq_getD_getElem?, Array.getElem?_eq_getElem hlt, Option.getD_some]
     exact hup this
   ·simp only [TV.fz, beq_false_of_ne he, cond_false]
    obtain ⟨b', g1, rfl⟩ := hx
    exact ⟨b', (if_neg he).trans g1, rfl⟩
 have hbs : ∀ k', lk (E.fz k cs).bs k' = (if k' = k then none else lk E.bs k').map fun p => (p.1, p.2.map (TV.fz k cs)) := fun k' => by
  rw [← lk_dropK]
  exact lk_map (fun p : TypeId × List TV => (p.1, p.2.map (TV.fz k cs))) (dropK k E.bs) k'
 refine ⟨g', F', ⟨h.dfr, h.sz, ?_, ?_, ?_, ?_, ?_, h.rd, h.ri, ?_, ?_, ?_, ?_⟩, rfl⟩
 ·intro t x hx
  have := lk_map (TV.fz k cs) E.ts t
  simp only [Env.fz] at hx
  rw [this] at hx
  obtain ⟨x', g1, rfl⟩ := Option.map_eq_some_iff.1 hx
  obtain ⟨u, g2, g3⟩ := h.ts t x' g1
  exact ⟨u, g2, hrt g3⟩
 ·intro k' T' cs' hk'
  rw [hbs] at hk'
  by_cases he : k' = k
  ·rw [if_pos he] at hk'; cases hk'
  ·rw [if_neg he] at hk'
   obtain ⟨⟨T2, cs2⟩, g1, g2⟩ := Option.map_eq_some_iff.1 hk'
   simp only [Prod.mk.injEq] at g2
   obtain ⟨rfl, rfl⟩ := g2
   obtain ⟨b', us', q1, q2, q3, q4, q5, q6⟩ := h.bs k' T2 cs2 g1
   refine ⟨b', us', (if_neg he).trans q1, q2, by simpa using q3, fun j c u hc hu => ?_, q5, fun o hc => ?_⟩
   ·rw [List.getElem?_map] at hc
    obtain ⟨c', hc', rfl⟩ := Option.map_eq_some_iff.1 hc
    exact hrt (q4 j c' u hc' hu)
   ·rcases hc with hc | hc
    ·exact q6 o hc
    ·exact he (h.bi _ _ _ q1 (hc ▸ h1))
 ·intro k' hk'
  rw [hbs, Option.map_eq_none_iff] at hk'
  show (if k' = k then none else g.bx k') = none
  by_cases he : k' = k
  ·rw [if_pos he]
  ·rw [if_neg he] at hk' ⊢; exact h.bd k' hk'
 ·intro k1 k2 b' q1 q2
  have e1 : k1 ≠ k := fun e => by simp only [g', if_pos e] at q1; cases q1
  have e2 : k2 ≠ k := fun e => by simp only [g', if_pos e] at q2; cases q2
  simp only [g', if_neg e1, if_neg e2] at q1 q2
  exact h.bi _ _ _ q1 q2
 ·intro k' R hk'
  obtain ⟨v, inner, q1, q2, q3, q4⟩ := h.rs k' R hk'
  refine ⟨v, inner, q1, q2, ⟨q3.1, q3.2.1, fun i e j c u z1 z2 z3 => hup (q3.2.2 i e j c u z1 z2 z3)⟩, fun b' hb' o hc => ?_⟩
  rcases hc with hc | hc
  ·exact q4 b' hb' o hc
  ·exact h.rb _ _ _ _ q1 hb' (hc ▸ h1)
 ·intro k1 k2 v b' q1 q2 q3
  have e2 : k2 ≠ k := fun e => by simp only [g', if_pos e] at q3; cases q3
  simp only [g', if_neg e2] at q3
  exact h.rb _ _ _ _ q1 q2 q3
 ·exact ⟨fun b' o hc => by rcases hc with hc | hc; exact h.ok.lt b' o hc; subst hc; exact (h.bx_lt h1).1, h.ok.at_, h.ok.un, h.ok.tab.keep (fun _ _ h => .inl h) (fun _ _ _ h _ => h)⟩
 ·exact h.ext
 ·exact ⟨fun b' o hc => .inl (h.le.c b' o hc), h.le.m, fun b' o hc => by rcases hc with hc | hc; exact h.le.cn b' o hc; subst hc; exact .inr h5, h.le.mn⟩
section
variable {X : Cx} {E : Env} {o : Oper} {S : Sl} {d : Nat} {x y : Operand}
theorem g_loadRApin {T : TypeId} {n : Nat} {cs xs : List PV} {pv : Value} (ho : o.op = .load T x) (hd : o.dst = some d) (hdn : Nat.ble (d + 1) X.nt = true) (hx : evT E x = some (.pv (.pin pv (.ref cs)))) (ha : AggIs X.P T true) (hs : SzIs X.P T n) (hc : cs.take n = xs) (hl : xs.length = n) :
  GS X o E ⟨opT x, [], []⟩ ⟨some d, .pv (.agg xs), none, none⟩ :=
 g_pure hd hdn fun E1 g F a w hag hr => by
  have h1 := evT_rel hr ((evT_agree hag (fun t h => h)).trans hx)
  generalize hv : a.eval x = v at h1
  have h1 : Rd w F (.ref cs) v := by cases h1 with | pin _ _ h => exact h
  cases h1 with
  | ref _ ad us h2 h3 h4 =>
   have hcs : ∀ j c, xs[j]? = some c → cs[j]? = some c := fun j c hj => by
    rw [← hc, List.getElem?_take] at hj
    split at hj
    ·exact hj
    ·cases hj
   have hrun := run_loadA (P := X.P) (w := w) (ad := ad) (us := (List.range n).map us) ha (by simpa using hs) (fun j u hj => by
    rw [List.getElem?_map] at hj
    obtain ⟨j', hj', rfl⟩ := Option.map_eq_some_iff.1 hj
    have hlt := (List.getElem?_eq_some_iff.1 hj').1
    simp only [List.length_range] at hlt
    rw [List.getElem?_range hlt] at hj'
    cases hj'
    exact h2 j _ (hcs j _ (List.getElem?_eq_getElem (by omega))))
   refine ⟨_, by simp only [execOp, ho, hv, Sem.run_bind, hrun, Result.andThen_ok]; rfl, .agg _ _ (by simpa using hl.symm) ?_⟩
   intro j c u hj hu
   have hlt : j < n := by have := (List.getElem?_eq_some_iff.1 hj).1; omega
   simp only [List.getElem?_toArray, List.getElem?_map, List.getElem?_range hlt, Option.map_some, Option.some.injEq] at hu
   subst hu
   exact h4 j c (hcs j c hj)
end
def Lent (E : Env) (l : List (Nat × PV)) : Prop := ∀ w0 F0 nt g F a w, Rel w0 F0 nt g F E a w → ∃ g' F', Rel w0 F0 nt g' F' ⟨l.map fun p => (p.1, .pv p.2), [], []⟩ a w ∧ F'.mw = F.mw
theorem Lent.has {E E' : Env} {l : List (Nat × PV)} (h : E.has E') (k : Lent E' l) : Lent E l := fun w0 F0 nt g F a w hr => by
 obtain ⟨g', hr'⟩ := hr.weaken h
 exact k _ _ _ _ _ _ _ hr'
theorem Lent.share {E : Env} {k : Nat} {R : RowS} {l : List (Nat × PV)} (hk : lk E.rs k = some R) (h : Lent { E.sub k (.sl R.es) with rs := dropK k E.rs } l) : Lent E l := fun w0 F0 nt g F a w hr => by
 obtain ⟨g', F', hr', e⟩ := hr.shareM hk
 obtain ⟨g2, F2, hr2, e2⟩ := h _ _ _ _ _ _ _ hr'
 exact ⟨g2, F2, hr2, e2.trans e⟩
theorem Lent.freeze {E : Env} {k : Nat} {T : TypeId} {cs : List PV} {l : List (Nat × PV)} (hk : lk E.bs k = some (T, cs.map .pv)) (h : Lent (E.fz k cs) l) : Lent E l := fun w0 F0 nt g F a w hr => by
 obtain ⟨g', F', hr', e⟩ := hr.freezeM hk
 obtain ⟨g2, F2, hr2, e2⟩ := h _ _ _ _ _ _ _ hr'
 exact ⟨g2, F2, hr2, e2.trans e⟩
theorem Lent.nil {l : List (Nat × PV)} : Lent ⟨l.map fun p => (p.1, .pv p.2), [], []⟩ l := fun w0 F0 nt g F a w hr => ⟨g, F, hr, rfl⟩
def Bk (E : Env) (l : List (Nat × PV)) (keep : List Nat) (vals : Nat → Value) (Q : Exit → Env → Prop) (e : Exit) (E' : Env) : Prop :=
 ∃ new : List (Nat × Value), (∀ p ∈ new, lk E'.ts p.1 = some (.pv (.val p.2))) ∧ (∀ t ∈ keep, ∃ x, lk E'.ts t = some (.pv (.pin (vals t) x))) ∧
  Q e ⟨(new.map fun p => (p.1, TV.pv (PV.val p.2))) ++ keep.filterMap (fun t => (lk E.ts t).map fun v => (t, v)), E.bs, E.rs⟩
def AllK (ts : List (Nat × TV)) (vals : Nat → Value) : List Nat → Prop
 | [] => True
 | t :: r => (∃ x, lk ts t = some (.pv (.pin (vals t) x))) ∧ AllK ts vals r
theorem AllK.get {ts : List (Nat × TV)} {vals : Nat → Value} : ∀ {l : List Nat}, AllK ts vals l → ∀ t ∈ l, ∃ x, lk ts t = some (.pv (.pin (vals t) x))
 | [], _, t, h => by cases h
 | a :: r, ⟨h1, h2⟩, t, h => by
  rcases List.mem_cons.1 h with rfl | h
  ·exact h1
  ·exact AllK.get h2 t h
theorem AllT.each {α : Type} {l : List (Nat × α)} : ∀ {l' : List (Nat × α)}, AllT l l' → ∀ p ∈ l', lk l p.1 = some p.2
 | [], _, p, h => by cases h
 | (t, v) :: r, ⟨h1, h2⟩, p, h => by
  rcases List.mem_cons.1 h with rfl | h
  ·exact h1
  ·exact AllT.each h2 p h
theorem bk_mk {E E' : Env} {l : List (Nat × PV)} {keep : List Nat} {vals : Nat → Value} {Q : Exit → Env → Prop} {e : Exit} (new : List (Nat × Value)) (h1 : AllT E'.ts (new.map fun p => (p.1, TV.pv (PV.val p.2)))) (h2 : AllK E'.ts vals keep)
  (hq : Q e ⟨(new.map fun p => (p.1, TV.pv (PV.val p.2))) ++ keep.filterMap (fun t => (lk E.ts t).map fun v => (t, v)), E.bs, E.rs⟩) : Bk E l keep vals Q e E' :=
 ⟨new, fun p hp => AllT.each h1 (p.1, .pv (.val p.2)) (List.mem_map.2 ⟨p, hp, rfl⟩), h2.get, hq⟩
theorem Conv.unpin {ts : List (Nat × TV)} {bs : List (Nat × TypeId × List TV)} {rs : List (Nat × RowS)} (t : Nat) {v : Value} {x : PV} (ht : lk ts t = some (.pv (.pin v x))) : Conv ⟨ts, bs, rs⟩ ⟨(t, .pv x) :: ts, bs, rs⟩ := fun w0 F0 nt g F a w hr => by
 refine ⟨g, F, ⟨hr.dfr, hr.sz, ?_, hr.bs, hr.bd, hr.bi, hr.rs, hr.rd, hr.ri, hr.rb, hr.ok, hr.ext, hr.le⟩⟩
 intro t' y hv
 simp only [lk_cons] at hv
 by_cases he : t = t'
 ·rw [if_pos he] at hv; cases hv; subst he
  obtain ⟨u, h1, h2⟩ := hr.ts t _ ht
  have h2 : Rd w F (.pin v x) u := h2
  cases h2 with
  | pin _ _ h => exact ⟨_, h1, h⟩
 ·rw [if_neg he] at hv; exact hr.ts t' y hv
theorem W.lend {X : Cx} {E : Env} {c : Code} {Q : Exit → Env → Prop} (l : List (Nat × PV)) (keep : List Nat) (hl : Lent E l)
  (h : ∀ w0 F0 (vals : Nat → Value), W ⟨X.P, w0, F0, X.nt⟩ c ⟨l.map fun p => (p.1, .pv (.pin (vals p.1) p.2)), [], []⟩ (Bk E l keep vals Q)) : W X c E Q := by
 intro g F a w hr
 obtain ⟨g1, F1, hr1, hmw⟩ := hl _ _ _ _ _ _ _ hr
 have hm : ∀ k, F1.m k ↔ F.m k := fun k => by simp [Foot.m, hmw]
 let vals : Nat → Value := fun t => a.tmps.getD t undef
 have hR : Rel w F1 X.nt ⟨fun _ => none, fun _ => none⟩ F1 ⟨l.map fun p => (p.1, .pv (.pin (vals p.1) p.2)), [], []⟩ a w := by
  refine ⟨hr1.dfr, hr1.sz, ?_, fun _ _ _ h => (by cases h), fun _ _ => rfl, fun _ _ _ h => (by cases h), fun _ _ h => (by cases h), fun _ _ => rfl, fun _ _ _ _ _ h => (by cases h), fun _ _ _ _ h => (by cases h), hr1.ok, Ext.refl _ _, Foot.le.refl _ _⟩
  intro t v hv
  have h1 : lk (l.map fun p => (p.1, TV.pv (PV.pin (vals p.1) p.2))) t = (lk l t).map fun x => TV.pv (.pin (vals t) x) := by
   clear hr1 hl h hv
   induction l with
   | nil => rfl
   | cons p r ih =>
    obtain ⟨k, x⟩ := p
    simp only [List.map_cons, lk_cons]
    by_cases hk : k = t
    ·subst hk; simp
    ·simp only [if_neg hk]; exact ih
  have hv' : lk (l.map fun p => (p.1, TV.pv (PV.pin (vals p.1) p.2))) t = some v := hv
  rw [h1] at hv'
  obtain ⟨x, hx, rfl⟩ := Option.map_eq_some_iff.1 hv'
  have h2 : lk (l.map fun p => (p.1, TV.pv p.2)) t = some (.pv x) := by
   rw [lk_map (fun y => TV.pv y)]; rw [hx]; rfl
  obtain ⟨u, q1, q2⟩ := hr1.ts t _ h2
  refine ⟨u, q1, ?_⟩
  have : vals t = u := by simp only [vals, Array.getD_eq_getD_getElem?, q1, Option.getD_some]
  rw [this]
  exact Rd.pin u x q2
 refine wp_mono (h w F1 vals _ _ _ _ hR) ?_
 rintro e a' w' ⟨g2, F2, E2, hr2, new, hnew, hkeep, hQ⟩
 have hx : Ext F w w' := ⟨hr2.ext.os, hr2.ext.tape, hr2.ext.output, hr2.ext.size, fun k hk hnm => hr2.ext.blk k hk (fun h => hnm ((hm k).1 h)), fun k ws hk hc => hr2.ext.mp k ws (hmw ▸ hk) hc⟩
 have hr3 := hr.call hx (Foot.le.refl F _) (hx.ok hr.ok)
 refine ⟨g, F, ⟨(new.map fun p => (p.1, TV.pv (PV.val p.2))) ++ keep.filterMap (fun t => (lk E.ts t).map fun v => (t, v)), E.bs, E.rs⟩, ⟨hr2.dfr, hr2.sz, ?_, hr3.bs, hr3.bd, hr3.bi, hr3.rs, hr3.rd, hr3.ri, hr3.rb, hr3.ok, hr3.ext, hr3.le⟩, hQ⟩
 intro t v hv
 simp only [lk_append] at hv
 cases h1 : lk (new.map fun p => (p.1, TV.pv (PV.val p.2))) t with
 | some v' =>
  rw [h1] at hv
  simp only [Option.some_or, Option.some.injEq] at hv
  subst hv
  have := lk_mem h1
  rw [List.mem_map] at this
  obtain ⟨p, hp, he⟩ := this
  simp only [Prod.mk.injEq] at he
  obtain ⟨rfl, rfl⟩ := he
  obtain ⟨u, q1, q2⟩ := hr2.ts _ _ (hnew p hp)
  have := rd_val q2
  subst this
  exact ⟨_, q1, Rd.val _⟩
 | none =>
  rw [h1] at hv
  simp only [Option.none_or] at hv
  have hmem := lk_mem hv
  rw [List.mem_filterMap] at hmem
  obtain ⟨t', ht', he⟩ := hmem
  obtain ⟨v', hv', he⟩ := Option.map_eq_some_iff.1 he
  simp only [Prod.mk.injEq] at he
  obtain ⟨rfl, rfl⟩ := he
  obtain ⟨u, q1, q2⟩ := hr3.ts _ _ hv'
  obtain ⟨x, hx⟩ := hkeep t' ht'
  obtain ⟨u2, p1, p2⟩ := hr2.ts _ _ hx
  have hu : u2 = u := by
   have p2 : Rd w' F2 (.pin (vals t') x) u2 := p2
   cases p2 with
   | pin _ _ _ => simp only [vals, Array.getD_eq_getD_getElem?, q1, Option.getD_some]
  subst hu
  exact ⟨_, p1, q2⟩
end Go.Proofs.YtohmhlkdgfcaeaaGreatDoor
namespace Go.Proofs.YtohmhlkdgfcaeaaGreatDoor
open Go Go.RowKit
theorem run_copyN {P : Program} (w : World) (dT sT ty elem : TypeId) (g o dLen dCap sz : Nat) (a : Addr) (sLen sCap : Nat) (cur : Array Value) (t : TypeId) (cs : List Value)
  (hu : P.underlying dT = some (.slice elem)) (hs : SzIs P elem sz) (hg : w.heap[g]? = some (.cells cur t (0, 0))) (hn : cs.length = Nat.min sLen dLen * sz)
  (hsrc : ∀ j v, cs[j]? = some v → w.cell? (a.add j) = some v) (hfit : o + cs.length ≤ cur.size) (h1 : ∀ v ∈ cs, v.oneCell' = true) :
  (Builtin.copy_ #[dT, sT] ty #[.slice (some ⟨g, o, none⟩) dLen dCap, .slice (some a) sLen sCap]).run P w = .ok (goInt (Nat.min sLen dLen)) (w.setRow g (cur.toList.take o ++ cs ++ cur.toList.drop (o + cs.length)).toArray) := by
 have h2 := run_loadCells_list (P := P) (w := w) a cs hsrc
 have h3 := run_storeCells_at P g o t cs 0 cur w hg (by simpa using hfit) h1
 simp only [Nat.add_zero] at h3
 rw [hn] at h2
 simp [Builtin.copy_, run_underlying hu, Builtin.lenOf, Builtin.firstCells, hs.run, h2, h3]
theorem flat_take {w : World} {F : Foot} {sz : Nat} {es : List (List PV)} {inner : List Value} (h : Flat w F sz es inner) (m : Nat) (hm : m ≤ es.length) : Flat w F sz (es.take m) (inner.take (m * sz)) := by
 have hle : m * sz ≤ es.length * sz := Nat.mul_le_mul_right _ hm
 refine ⟨by rw [List.length_take, List.length_take, h.1, Nat.min_eq_left hle, Nat.min_eq_left hm], ?_, ?_⟩
 ·intro i e hi
  rw [List.getElem?_take] at hi
  split at hi
  ·exact h.2.1 i e hi
  ·cases hi
 ·intro i e j c u hi hj hu
  rw [List.getElem?_take] at hi hu
  split at hi
  ·split at hu
   ·exact h.2.2 i e j c u hi hj hu
   ·cases hu
  ·cases hi
theorem flat_drop {w : World} {F : Foot} {sz : Nat} {es : List (List PV)} {inner : List Value} (h : Flat w F sz es inner) (m : Nat) : Flat w F sz (es.drop m) (inner.drop (m * sz)) := by
 refine ⟨by rw [List.length_drop, List.length_drop, h.1, Nat.sub_mul], ?_, ?_⟩
 ·intro i e hi
  rw [List.getElem?_drop] at hi
  exact h.2.1 _ e hi
 ·intro i e j c u hi hj hu
  rw [List.getElem?_drop] at hi hu
  refine h.2.2 _ e j c u hi hj ?_
  rw [Nat.add_mul, Nat.add_assoc]
  exact hu
theorem flat_app {w : World} {F : Foot} {sz : Nat} {es es2 : List (List PV)} {inner news : List Value} (h : Flat w F sz es inner) (h2 : Flat w F sz es2 news) : Flat w F sz (es ++ es2) (inner ++ news) :=
 flat_append h h2.1 h2.2.1 h2.2.2
section
variable {X : Cx} {E : Env} {Q : Exit → Env → Prop} {ops : Array Oper} {rest : List Oper} {o : Oper} {d : Nat} {x y : Operand}
theorem Rel.lay {w0 : World} {F0 : Foot} {nt : Nat} {g : Ghost} {F : Foot} {a : Act} {w : World} (hr : Rel w0 F0 nt g F E a w) {k q cap i : Nat} {R : RowS} {cur : Array Value} {ms : List (List PV)} {us inner : List Value} (hk : lk E.rs k = some R) (hv : g.rw k = some (.slice (some ⟨q, 0, none⟩) R.es.length cap))
  (hh : w.heap[q]? = some (.cells cur R.T (0, 0))) (hcs : cur.size = cap * R.sz) (htk : cur.toList.take (R.es.length * R.sz) = inner) (hc : R.es.length ≤ cap) (hm : cap ≤ maxLen) (hq : w0.heap.size ≤ q) (hfl : Flat w F R.sz R.es inner) (hus : Flat w F R.sz ms us) (hi : i + ms.length ≤ R.es.length) :
  Rel w0 F0 nt g F { E with rs := (k, ⟨R.T, R.sz, R.es.take i ++ ms ++ R.es.drop (i + ms.length)⟩) :: E.rs } a (w.setRow q (cur.toList.take (i * R.sz) ++ us ++ cur.toList.drop (i * R.sz + us.length)).toArray) := by
 have hnF : ∀ o, ¬ F.c q o := (hr.rw_lt hv (by simp [Value.ownBlock])).2.2
 obtain ⟨t1, t2⟩ := setRow_turns (w0 := w0) (F := F) (cs := (cur.toList.take (i * R.sz) ++ us ++ cur.toList.drop (i * R.sz + us.length)).toArray) hh hq hnF (hr.rw_m hv (by simp [Value.ownBlock]))
 have t1' : Turns w0 F (fun x => (Value.slice (some ⟨q, 0, none⟩) R.es.length cap).ownBlock = some x) w (w.setRow q (cur.toList.take (i * R.sz) ++ us ++ cur.toList.drop (i * R.sz + us.length)).toArray) := by
  have e : (fun x => (Value.slice (some ⟨q, 0, none⟩) R.es.length cap).ownBlock = some x) = fun x => x = q := by funext x; simp [Value.ownBlock, eq_comm]
  rw [e]; exact t1
 have hlen : us.length = ms.length * R.sz := hus.1
 have hi1 : i * R.sz + ms.length * R.sz ≤ R.es.length * R.sz := by rw [← Nat.add_mul]; exact Nat.mul_le_mul_right _ hi
 have hcap : R.es.length * R.sz ≤ cap * R.sz := Nat.mul_le_mul_right _ hc
 have hel : (R.es.take i ++ ms ++ R.es.drop (i + ms.length)).length = R.es.length := by simp; omega
 have hcl : cur.toList.length = cap * R.sz := by simpa using hcs
 have hin : (cur.toList.take (i * R.sz) ++ us ++ cur.toList.drop (i * R.sz + us.length)).take (R.es.length * R.sz) = inner.take (i * R.sz) ++ us ++ inner.drop (i * R.sz + us.length) := by
  rw [← htk, List.append_assoc, List.append_assoc, List.take_append, List.take_append, List.take_take, List.take_take]
  rw [List.length_take, hcl, Nat.min_eq_left (show i * R.sz ≤ R.es.length * R.sz by omega), Nat.min_eq_right (show i * R.sz ≤ R.es.length * R.sz by omega), Nat.min_eq_left (show i * R.sz ≤ cap * R.sz by omega)]
  congr 1
  rw [List.take_of_length_le (show us.length ≤ R.es.length * R.sz - i * R.sz by omega), List.drop_take]
  congr 2
  omega
 refine hr.setrow_same (R' := ⟨R.T, R.sz, R.es.take i ++ ms ++ R.es.drop (i + ms.length)⟩) hk hv t1' (inner' := inner.take (i * R.sz) ++ us ++ inner.drop (i * R.sz + us.length)) ?_ ?_
 ·have hil : inner.length = R.es.length * R.sz := hfl.1
  refine ⟨?_, .inr ⟨q, cap, _, by simp only [hel], hq, t2, by simp only [hel]; exact hc, hm, ?_, ?_⟩⟩
  ·simp only [hel]
   simp only [List.length_append, List.length_take, List.length_drop, hil]
   omega
  ·simp only [List.size_toArray, List.length_append, List.length_take, List.length_drop, hcl]
   omega
  ·simp only [hel]; exact hin
 ·have hd := flat_drop hfl (i + ms.length)
  rw [Nat.add_mul, ← hlen] at hd
  exact flat_app (flat_app (flat_take hfl i (by omega)) hus) hd
theorem g_part {T e : TypeId} {kk : Nat} {lo hi : Option Operand} {R : RowS} {l h : Int} (ho : o.op = .slice T x lo hi none) (hd : o.dst = some d) (hdn : Nat.ble (d + 1) X.nt = true) (hx : evT E x = some (.row kk)) (hk : lk E.rs kk = some R) (hT : ElIs X.P T e R.sz)
  (hl : bnd E 0 lo = some l) (hh : bnd E R.es.length hi = some h) (hb : 0 ≤ l ∧ l < h ∧ h ≤ R.es.length) : GS X o E ⟨opT x ++ (bndT lo ++ bndT hi), [], [kk]⟩ ⟨some d, .part kk (l.toNat * R.sz) (h.toNat - l.toNat), none, none⟩ :=
 g_pure hd hdn fun E1 g F a w hag hr => by
  have g1 := evT_rel hr ((evT_agree hag (fun t h => List.mem_append_left _ h)).trans hx)
  obtain ⟨v, inner, g2, g3, _⟩ := hr.rs kk R ((hag.rs kk (by simp)).trans hk)
  have hv : a.eval x = v := Option.some.inj (g1.symm.trans g2)
  rcases g3.2 with ⟨_, hn⟩ | ⟨q, cap, cur, rfl, hq, hq2, hcap, _⟩
  ·omega
  ·have hne : ¬ cap = l.toNat := by omega
   refine ⟨.slice (some ⟨q, l.toNat * R.sz, none⟩) (h.toNat - l.toNat) (cap - l.toNat), ?_, _, q, _, g2, rfl, rfl⟩
   have e : ∀ sz, (⟨q, 0, none⟩ : Addr).add (l.toNat * sz) = ⟨q, l.toNat * sz, none⟩ := fun sz => addr_block q _
   rcases bnd_run hl hag (fun t ht => List.mem_append_right _ (List.mem_append_left _ ht)) hr with ⟨rfl, rfl⟩ | ⟨xl, kl, rfl, el⟩ <;> rcases bnd_run hh hag (fun t ht => List.mem_append_right _ (List.mem_append_right _ ht)) hr with ⟨rfl, rfl⟩ | ⟨xh, kh, rfl, eh⟩
   ·have h0 : cap ≠ 0 := by simpa using hne
    simp [execOp, ho, hv, Instr.sliceAt, Instr.slice, run_underlying hT.1, Instr.sliceBounds, hT.2.run, h0]
    simp [Addr.add]
   ·have h0 : cap ≠ 0 := by simpa using hne
    simp [execOp, ho, hv, Instr.sliceAt, Instr.slice, run_underlying hT.1, Instr.sliceBounds, hT.2.run, eh, run_bound (show 0 ≤ h by omega) (show h ≤ cap by omega), h0]
    simp [Addr.add]
   ·simp [execOp, ho, hv, Instr.sliceAt, Instr.slice, run_underlying hT.1, Instr.sliceBounds, hT.2.run, el, run_bound hb.1 (show l ≤ (R.es.length : Nat) by omega), hne, e]
   ·simp [execOp, ho, hv, Instr.sliceAt, Instr.slice, run_underlying hT.1, Instr.sliceBounds, hT.2.run, el, eh, run_bound (show 0 ≤ h by omega) (show h ≤ cap by omega), run_bound hb.1 (show l ≤ (h.toNat : Nat) by omega), hne, e]
theorem g_makeZ {T e : TypeId} {zs : List Value} {sz bytes : Nat} {c : Int} (ho : o.op = .makeSlice T x y) (hd : o.dst = some d) (hdn : Nat.ble (d + 1) X.nt = true) (hx : evT E x = some (.pv (.i c))) (hy : evT E y = some (.pv (.i c))) (hu : X.P.underlying T = some (.slice e))
  (hz : ∃ i z, X.P.info? e = some i ∧ i.zero = some z ∧ z.cells = zs.toArray ∧ i.size = sz ∧ i.bytes = bytes) (hsz : zs.length = sz) (h0 : Nat.blt 0 sz = true) (hby : Nat.ble bytes 1024 = true) (hc : 0 ≤ c) (hc2 : c ≤ 16777216) :
  GS X o E ⟨opT x ++ opT y, [], []⟩ ⟨some d, .row d, none, some ⟨e, sz, List.replicate c.toNat (zs.map .val)⟩⟩ :=
 g_newrow _ hd hdn fun E1 g F a w hag hr => by
  obtain ⟨i, z, h1, h2, h3, h4, h5⟩ := hz
  have hx1 := evT_val hr ((evT_agree hag (fun t h => List.mem_append_left _ h)).trans hx)
  have hy1 := evT_val hr ((evT_agree hag (fun t h => List.mem_append_right _ h)).trans hy)
  have hby := Nat.le_of_ble_eq_true hby
  have h0 : 0 < sz := by have h1 : 1 ≤ sz := by simpa [Nat.blt] using h0
                         omega
  have hb : (i.bytes : Int) * c ≤ 281474976710656 := by
   have q1 : (i.bytes : Int) ≤ 1024 := by omega
   calc (i.bytes : Int) * c ≤ 1024 * c := Int.mul_le_mul_of_nonneg_right q1 hc
    _ ≤ _ := by omega
  have hrun := run_make (P := X.P) w T e i z hu h1 h2 .i64 .i64 c c hc (Int.le_refl _) hb (by omega)
  refine ⟨madeCells z.cells (c.toNat * i.size), e, _, by simp only [execOp, ho, hx1, hy1, Sem.run_bind, hrun, Result.andThen_ok]; rfl, ?_, ?_, fun b hb => by simp [Value.ownBlock] at hb; exact hb.symm⟩
  ·have hm : c.toNat ≤ maxLen := by simp only [maxLen]; omega
   rw [List.length_replicate]
   exact World.ownsRow_lit (base := X.w0.heap.size) (e := e) (size := sz) w _ c.toNat hr.ext.size hm (by rw [size_madeCells, h4])
  ·refine ⟨by rw [Array.length_toList, size_madeCells, h4, List.length_replicate], ?_, ?_⟩
   ·intro j e' hj
    rw [List.getElem?_replicate] at hj
    split at hj
    ·cases hj; simpa using hsz
    ·cases hj
   ·intro j e' m q u hj hm hu
    rw [List.getElem?_replicate] at hj
    split at hj
    ·rename_i hjc
     cases hj
     rw [List.getElem?_map] at hm
     obtain ⟨v, hv, rfl⟩ := Option.map_eq_some_iff.1 hm
     have hml : m < sz := by have := (List.getElem?_eq_some_iff.1 hv).1; omega
     have hzs : z.cells.size = sz := by rw [h3]; simpa using hsz
     rw [madeCells, Array.getElem?_toList, Array.getElem?_map] at hu
     obtain ⟨q, hq, rfl⟩ := Option.map_eq_some_iff.1 hu
     have hq' : q = j * sz + m := by
      have := Array.getElem?_eq_some_iff.1 hq
      obtain ⟨h6, h7⟩ := this
      simp at h7
      exact h7.symm
     subst hq'
     have e1 : (j * sz + m) % z.cells.size = m := by
      rw [hzs, Nat.mul_comm, Nat.mul_add_mod]
      exact Nat.mod_eq_of_lt hml
     have e2 : z.cells[m]! = v := by
      rw [h3]
      simp [hv]
     rw [e1, e2]
     exact .val _
    ·cases hj
section
variable {ts : List (Nat × TV)} {bs : List (Nat × TypeId × List TV)} {rs : List (Nat × RowS)} {α : Type} {enc : α → List PV}
theorem rel_one {g : Ghost} {F : Foot} {a : Act} {w : World} {sz : Nat} {es : List (List PV)} {us : List Value} (hf : Flat w F sz es us) (h1 : ∀ e ∈ es, ∀ c ∈ e, PV.one c = true) : ∀ u ∈ us, u.oneCell' = true := by
 intro u hu
 obtain ⟨j, hj⟩ := List.getElem?_of_mem hu
 have hjl := (List.getElem?_eq_some_iff.1 hj).1
 rw [hf.1] at hjl
 have hsz : 0 < sz := by
  rcases Nat.eq_zero_or_pos sz with h | h
  ·subst h; simp at hjl
  ·exact h
 have hd : j / sz < es.length := Nat.div_lt_of_lt_mul (by rw [Nat.mul_comm]; exact hjl)
 have he := List.getElem?_eq_getElem hd
 have hel := hf.2.1 _ _ he
 have hm : j % sz < (es[j / sz]).length := by rw [hel]; exact Nat.mod_lt _ hsz
 have hc := List.getElem?_eq_getElem hm
 have := hf.2.2 _ _ _ _ u he hc (by rw [Nat.mul_comm, Nat.div_add_mod]; exact hj)
 exact (rd_one this (h1 _ (List.getElem_mem hd) _ (List.getElem_mem hm))).1
theorem s_copyH {t T elem : TypeId} {k sz : Nat} {l l2 : List α} (ho : o.op = .call { callee := .builtin .copy, args := #[x, y], argTypes := #[t, t] }) (hd : o.dst = some d) (hdn : Nat.ble (d + 1) X.nt = true)
  (hx : evT ⟨ts, bs, rs⟩ x = some (.row k)) (hk : lk rs k = some ⟨T, sz, l.map enc⟩) (hy : evT ⟨ts, bs, rs⟩ y = some (.pv (.sl (l2.map enc)))) (hT : ElIs X.P t elem sz) (hone : ∀ q, (enc q).all PV.one = true) (hlen : ∀ q, (enc q).length = sz)
  (h0 : 0 < l2.length) (hle : l2.length ≤ l.length) :
  Step X o ⟨ts, bs, rs⟩ ⟨(d, .pv (.i l2.length)) :: ts, bs, (k, ⟨T, sz, (l2 ++ l.drop l2.length).map enc⟩) :: rs⟩ := by
 intro g F a w K Q hr hK
 have gx := evT_rel hr hx
 obtain ⟨v, inner, q1, q2, q3, q4⟩ := hr.rs k _ hk
 have hv : a.eval x = v := Option.some.inj (gx.symm.trans q1)
 obtain ⟨A, cap2, news, r1, r2, r3, r4, r5⟩ := src_cells hr (es := l2.map enc) (sz := sz) (by simpa using fun q _ => hlen q) (by intro e he c hc; obtain ⟨q, _, rfl⟩ := List.mem_map.1 he; exact List.all_eq_true.1 (hone q) c hc) (evT_rel hr hy)
 obtain ⟨ad, rfl, r6⟩ := r4 (by simpa using h0)
 rcases q2.2 with ⟨rfl, hn⟩ | ⟨q, cap, cur, rfl, hq, hh, hc, hm, hcs, htk⟩
 ·have hl0 : l.length = 0 := by simpa using hn
  omega
 ·have hc' : l.length ≤ cap := by simpa using hc
  have hfn : Flat w F sz (l2.map enc) news := ⟨r2, fun i e he => by rw [List.getElem?_map] at he; obtain ⟨q, _, rfl⟩ := Option.map_eq_some_iff.1 he; exact hlen q, r5⟩
  have r1' : a.eval y = .slice (some ad) l2.length cap2 := by simpa using r1
  have hv' : a.eval x = .slice (some ⟨q, 0, none⟩) l.length cap := by simpa using hv
  have r2' : news.length = l2.length * sz := by simpa using r2
  have hmn : Nat.min l2.length l.length = l2.length := Nat.min_eq_left hle
  have hfit : 0 + news.length ≤ cur.size := by
   have h5 : l2.length * sz ≤ cap * sz := Nat.mul_le_mul_right _ (by omega)
   have h6 : cur.size = cap * sz := hcs
   omega
  have hrun := run_copyN (P := X.P) w t t o.type elem q 0 l.length cap sz ad l2.length cap2 cur T news hT.1 hT.2 hh (by rw [r2', hmn]) r6 hfit r3
  rw [hmn] at hrun
  have hex : (execOp a.eval o).run X.P w = .ok (.value (goInt l2.length)) (w.setRow q (cur.toList.take 0 ++ news ++ cur.toList.drop (0 + news.length)).toArray) := by
   simp only [execOp, ho, resolve, Sem.run_bind, Sem.run_pure, Result.andThen_ok, invoke, builtin]
   simp only [List.map_toArray, List.map_cons, List.map_nil, hv', r1', hrun, Result.andThen_ok, Sem.run_pure]
  unfold Oper.wp
  rw [hex]
  simp only [Oper.upon, hd]
  have hl := hr.lay (i := 0) (ms := l2.map enc) (us := news) hk q1 hh hcs htk hc hm hq q3 hfn (by simpa using hle)
  have hl2 := hl.put (d := d) (v := .pv (.i l2.length)) (u := goInt l2.length) (Nat.le_of_ble_eq_true hdn) (Rd.val _)
  have e1 : ((l.map enc).take 0 ++ l2.map enc ++ (l.map enc).drop (0 + (l2.map enc).length)) = (l2 ++ l.drop l2.length).map enc := by simp
  simp only [e1, Nat.zero_mul] at hl2
  exact hK g F _ _ hl2
theorem s_copyP {t T elem : TypeId} {k sz i n j m : Nat} {l : List α} (ho : o.op = .call { callee := .builtin .copy, args := #[x, y], argTypes := #[t, t] }) (hd : o.dst = some d) (hdn : Nat.ble (d + 1) X.nt = true)
  (hx : evT ⟨ts, bs, rs⟩ x = some (.part k (i * sz) n)) (hk : lk rs k = some ⟨T, sz, l.map enc⟩) (hy : evT ⟨ts, bs, rs⟩ y = some (.part k (j * sz) m)) (hT : ElIs X.P t elem sz) (hone : ∀ q, (enc q).all PV.one = true)
  (hin : i + n ≤ l.length) (hjm : j + m ≤ l.length) :
  Step X o ⟨ts, bs, rs⟩ ⟨(d, .pv (.i (Nat.min m n))) :: ts, bs, (k, ⟨T, sz, (l.take i ++ (l.drop j).take (Nat.min m n) ++ l.drop (i + Nat.min m n)).map enc⟩) :: rs⟩ := by
 intro g F a w K Q hr hK
 obtain ⟨r, b, c, gx1, gx2, gx3⟩ := evT_rel hr hx
 obtain ⟨r', b', c', gy1, gy2, gy3⟩ := evT_rel hr hy
 obtain ⟨v, inner, q1, q2, q3, q4⟩ := hr.rs k _ hk
 obtain rfl : v = r := Option.some.inj (q1.symm.trans gx1)
 obtain rfl : v = r' := Option.some.inj (q1.symm.trans gy1)
 rcases q2.2 with ⟨rfl, hn⟩ | ⟨q, cap, cur, rfl, hq, hh, hc, hm, hcs, htk⟩
 ·simp [Value.ownBlock] at gx2
 ·simp only [Value.ownBlock, Option.some.injEq] at gx2 gy2
  subst gx2 gy2
  have hc' : l.length ≤ cap := by simpa using hc
  have hm1 : Nat.min m n ≤ m := Nat.min_le_left _ _
  have hm2 : Nat.min m n ≤ n := Nat.min_le_right _ _
  generalize hp : Nat.min m n = p at hm1 hm2
  simp only [hp] at hK
  have hil : inner.length = l.length * sz := by simpa using q3.1
  have hfn : Flat w F sz (((l.map enc).drop j).take p) ((inner.drop (j * sz)).take (p * sz)) := flat_take (flat_drop q3 j) p (by simp; omega)
  have hln : ((inner.drop (j * sz)).take (p * sz)).length = p * sz := by
   have h8 : (((l.map enc).drop j).take p).length = p := by simp; omega
   rw [hfn.1, h8]
  have hone' : ∀ u ∈ (inner.drop (j * sz)).take (p * sz), u.oneCell' = true := rel_one (g := g) (a := a) hfn (fun e he c hc => by
   have he2 := List.mem_of_mem_drop (List.mem_of_mem_take he)
   obtain ⟨q, _, rfl⟩ := List.mem_map.1 he2
   exact List.all_eq_true.1 (hone q) c hc)
  have hsrc : ∀ s u, ((inner.drop (j * sz)).take (p * sz))[s]? = some u → w.cell? ((⟨q, j * sz, none⟩ : Addr).add s) = some u := fun s u hs => by
   rw [List.getElem?_take] at hs
   split at hs
   ·rw [List.getElem?_drop] at hs
    have := q2.cells (g := q) (by simp [Value.ownBlock]) (j * sz + s) u hs
    rw [addr_block] at this
    have e : (⟨q, j * sz, none⟩ : Addr).add s = ⟨q, j * sz + s, none⟩ := by unfold Addr.add; split <;> simp_all
    rw [e]; exact this
   ·cases hs
  have hfit : i * sz + ((inner.drop (j * sz)).take (p * sz)).length ≤ cur.size := by
   rw [hln, ← Nat.add_mul]
   have h6 : cur.size = cap * sz := hcs
   rw [h6]
   exact Nat.mul_le_mul_right _ (by omega)
  have hrun := run_copyN (P := X.P) w t t o.type elem q (i * sz) n c sz ⟨q, j * sz, none⟩ m c' cur T ((inner.drop (j * sz)).take (p * sz)) hT.1 hT.2 hh (by rw [hln, hp]) hsrc hfit hone'
  rw [hp] at hrun
  have hex : (execOp a.eval o).run X.P w = .ok (.value (goInt p)) (w.setRow q (cur.toList.take (i * sz) ++ ((inner.drop (j * sz)).take (p * sz)) ++ cur.toList.drop (i * sz + ((inner.drop (j * sz)).take (p * sz)).length)).toArray) := by
   simp only [execOp, ho, resolve, Sem.run_bind, Sem.run_pure, Result.andThen_ok, invoke, builtin]
   simp only [List.map_toArray, List.map_cons, List.map_nil, gx3, gy3, hrun, Result.andThen_ok, Sem.run_pure]
  unfold Oper.wp
  rw [hex]
  simp only [Oper.upon, hd]
  have hpl : (((l.map enc).drop j).take p).length = p := by simp; omega
  have hl := hr.lay (i := i) (ms := ((l.map enc).drop j).take p) (us := (inner.drop (j * sz)).take (p * sz)) hk q1 hh hcs htk hc hm hq q3 hfn (by simp; omega)
  have hl2 := hl.put (d := d) (v := .pv (.i p)) (u := goInt p) (Nat.le_of_ble_eq_true hdn) (Rd.val _)
  have e1 : ((l.map enc).take i ++ ((l.map enc).drop j).take p ++ (l.map enc).drop (i + p)) = (l.take i ++ (l.drop j).take p ++ l.drop (i + p)).map enc := by simp
  simp only [hpl, e1] at hl2
  exact hK g F _ _ hl2
theorem PreR.cP {L : List (Sl × Ef2)} {E' : Env} {os : List Oper} {t T elem : TypeId} {k sz i n j m : Nat} {l : List α} (hg : o.guard = none) (ho : o.op = .call { callee := .builtin .copy, args := #[x, y], argTypes := #[t, t] }) (hd : o.dst = some d) (hdn : Nat.ble (d + 1) X.nt = true)
  (hx : evT ⟨ts, bs, rs⟩ x = some (.part k (i * sz) n)) (hk : lk rs k = some ⟨T, sz, l.map enc⟩) (hy : evT ⟨ts, bs, rs⟩ y = some (.part k (j * sz) m)) (hT : ElIs X.P t elem sz) (hone : ∀ q, (enc q).all PV.one = true)
  (hin : i + n ≤ l.length) (hjm : j + m ≤ l.length) (tl : PreR X Q ops os ⟨(d, .pv (.i (Nat.min m n))) :: ts, bs, (k, ⟨T, sz, (l.take i ++ (l.drop j).take (Nat.min m n) ++ l.drop (i + Nat.min m n)).map enc⟩) :: rs⟩ L E') :
  PreR X Q ops (o :: os) ⟨ts, bs, rs⟩ ((⟨opT x ++ opT y, [], [k]⟩, ⟨[(d, .pv (.i (Nat.min m n)))], [], [(k, ⟨T, sz, (l.take i ++ (l.drop j).take (Nat.min m n) ++ l.drop (i + Nat.min m n)).map enc⟩)], [], [], []⟩) :: L) E' := by
 refine .cons ?_ ⟨by simp, by simp, by simp⟩ tl
 intro E1 hag _ g F a w K hr hK
 rw [if_pos (wantedNone hg)]
 exact s_copyP (ts := E1.ts) (bs := E1.bs) (rs := E1.rs) ho hd hdn ((evT_agree hag (fun t ht => List.mem_append_left _ ht)).trans hx) ((hag.rs k List.mem_cons_self).trans hk) ((evT_agree hag (fun t ht => List.mem_append_right _ ht)).trans hy) hT hone hin hjm g F a w K (QQ X Q) hr hK
end
end
end Go.Proofs.YtohmhlkdgfcaeaaGreatDoor
namespace Go.Proofs.YtohmhlkdgfcaeaaGreatDoor
open Go Go.RowKit
theorem zeroCells_one (z : Value) (n : Nat) : Builtin.zeroCells #[z] n = (List.replicate n z).toArray := by
 apply Array.ext
 ·simp [Builtin.zeroCells]
 ·intro i h1 h2
  simp [Builtin.zeroCells, Nat.mod_one]
theorem run_append_z {P : Program} (w : World) (base : Nat) (t ti ty e : TypeId) (i : TypeInfo) (z : Value) (ht : P.underlying t = some (.slice e)) (hti : P.underlying ti = some (.int .i64)) (hi : P.info? e = some i) (hz : i.zero = some z)
  (hzc : z.cells = #[z]) (hz1 : z.oneCell' = true) (hs : i.size = 1) (hb0 : 0 < i.bytes) (hb1 : i.bytes ≤ 64) (v : Value) (n m : Nat) (xs : List Value) (hown : w.ownsRow base e 1 v n xs) (hb : n + m ≤ 1000000) (hbase : base ≤ w.heap.size) :
  ∃ v' w', (Builtin.append_ #[t, ti] ty #[v, .int .i64 m]).run P w = .ok v' w' ∧ w'.ownsRow base e 1 v' (n + m) (xs ++ List.replicate m z) ∧ w.grownBy w' v.ownBlock ∧ (v'.ownBlock = v.ownBlock ∨ v'.ownBlock = some w.heap.size) := by
 have hml : maxLen = 9223372036854775807 := rfl
 have hwm : IntKind.i64.wrap (m : Int) = m := by rw [IntKind.wrap_i64]; omega
 have hxl : xs.length = n := by simpa using hown.1
 have hmb : ¬ (281474976710656 < (m : Int) * (i.bytes : Int)) := by
  have h1 : (m : Int) * (i.bytes : Int) ≤ (m : Int) * 64 := Int.mul_le_mul_of_nonneg_left (by omega) (by omega)
  omega
 have hneg : ¬ ((m : Int) < 0) := by omega
 have hcells : Builtin.zeroCells z.cells m = (List.replicate m z).toArray := by rw [hzc, zeroCells_one]
 have hz2 : m = 0 → List.replicate m z = [] := fun h => by rw [h]; rfl
 have new : ∀ (A : Option Addr) (cap : Nat), cap < n + m → (Builtin.firstCells 1 n (.slice A n cap)).run P w.drew = .ok xs.toArray w.drew →
   ∃ v' w', (Builtin.append_ #[t, ti] ty #[.slice A n cap, .int .i64 m]).run P w = .ok v' w' ∧ w'.ownsRow base e 1 v' (n + m) (xs ++ List.replicate m z) ∧ (∀ row, w.grownBy w' row) ∧ v'.ownBlock = some w.heap.size := by
  intro A cap hcap hf
  have hge := grownCap_ge w (n + m) cap e
  have hle := grownCap_le_maxLen w (n + m) cap e (by omega)
  have hn : ¬ (n + m ≤ cap) := by omega
  have h63 : ¬ (9223372036854775807 < ((n : Int) + (m : Int))) := by omega
  have hfit := growslice_fits (bytes := i.bytes) hcap (Nat.le_trans (Nat.mul_le_mul hb hb1) (by decide))
  have h48 : ¬ (281474976710656 < Builtin.nextslicecap (n + m) cap * i.bytes) := by omega
  refine ⟨.slice (some ⟨w.heap.size, 0, none⟩) (n + m) (grownCap w (n + m) cap e), w.drew.alloc (.cells (xs.toArray ++ (List.replicate m z).toArray ++ Builtin.zeroCells z.cells (grownCap w (n + m) cap e - (n + m))) e), ?_, ?_, ?_, rfl⟩
  ·rcases Nat.eq_zero_or_pos m with h0 | h0
   ·subst h0
    have hw0 : IntKind.i64.wrap 0 = 0 := by rw [IntKind.wrap_i64]; rfl
    have h63' : ¬ (9223372036854775807 < (n : Int)) := by omega
    simp only [Nat.add_zero] at hn h48 ⊢
    simp [Builtin.append_, run_underlying ht, run_underlying hti, sizeOf, typeInfo, zeroValue, hi, hz, hs, asInt, asIntOf, hw0, hn, h63', h48, Question.forced, hf, newRow, grownCap]
   ·have hne : m ≠ 0 := by omega
    simp [Builtin.append_, run_underlying ht, run_underlying hti, sizeOf, typeInfo, zeroValue, hi, hz, hs, asInt, asIntOf, hwm, hneg, hmb, hn, h63, h48, Question.forced, hf, newRow, grownCap, hne, hcells]
  ·refine ⟨by simp [hxl], .inr ⟨w.heap.size, _, _, rfl, hbase, heap_alloc_new w.drew _, hge, hle, ?_, ?_⟩⟩
   ·simp [hzc, zeroCells_one, hxl]
    omega
   ·simp only [Array.toList_append, List.append_assoc, Nat.mul_one]
    rw [← List.append_assoc]
    exact List.take_left' (by simp [hxl])
  ·intro row
   exact ⟨rfl, rfl, rfl, by simp, fun k hk _ => Below.heap_alloc w.drew _ k hk⟩
 rcases hown.2 with ⟨rfl, rfl⟩ | ⟨g, cap, cur, rfl, hbg, hg, hnc, hcm, hcs, htake⟩
 ·have hx : xs = [] := List.eq_nil_of_length_eq_zero hxl
  subst hx
  rcases Nat.eq_zero_or_pos m with h0 | h0
  ·subst h0
   have hw0 : IntKind.i64.wrap 0 = 0 := by rw [IntKind.wrap_i64]; rfl
   refine ⟨.slice none 0 0, w, ?_, World.ownsRow_nil w base e 1, ⟨rfl, rfl, rfl, Nat.le_refl _, fun _ _ _ => rfl⟩, Or.inl rfl⟩
   simp [Builtin.append_, run_underlying ht, run_underlying hti, sizeOf, typeInfo, hi, hs, asInt, asIntOf, hw0]
  ·obtain ⟨v', w', h1, h2, h3, h4⟩ := new none 0 (by omega) (by simp [Builtin.firstCells])
   exact ⟨v', w', h1, h2, h3 _, .inr h4⟩
 ·by_cases hroom : n + m ≤ cap
  ·have hcs1 : cur.size = cap := by simpa using hcs
   have hst := run_storeCells_at P g n e (List.replicate m z) 0 cur w hg (by simp; omega) (fun u hu => by rw [(List.mem_replicate.1 hu).2]; exact hz1)
   simp only [Nat.add_zero] at hst
   refine ⟨.slice (some ⟨g, 0, none⟩) (n + m) cap, w.setRow g (cur.toList.take n ++ List.replicate m z ++ cur.toList.drop (n + (List.replicate m z).length)).toArray, ?_, ⟨by simp [hxl], .inr ⟨g, cap, _, rfl, hbg, setRow_heap w g cur _ e _ hg, hroom, hcm, ?_, ?_⟩⟩, ?_, .inl rfl⟩
   ·rcases Nat.eq_zero_or_pos m with h0 | h0
    ·subst h0
     have hw0 : IntKind.i64.wrap 0 = 0 := by rw [IntKind.wrap_i64]; rfl
     simp only [List.replicate_zero] at hst
     have e1 : (⟨g, 0, none⟩ : Addr).add n = ⟨g, n, none⟩ := addr_block g n
     simp [Builtin.append_, run_underlying ht, run_underlying hti, sizeOf, typeInfo, hi, hs, asInt, asIntOf, hw0, hnc, e1, hst]
    ·have hne : m ≠ 0 := by omega
     have e1 : (⟨g, 0, none⟩ : Addr).add n = ⟨g, n, none⟩ := addr_block g n
     simp [Builtin.append_, run_underlying ht, run_underlying hti, sizeOf, typeInfo, zeroValue, hi, hz, hs, asInt, asIntOf, hwm, hneg, hmb, hroom, hne, hcells, e1]
     simp at hst
     simp [hst]
   ·simp
    omega
   ·have h6 : cur.toList.take n = xs := by simpa using htake
    simp only [Nat.mul_one, h6]
    exact List.take_left' (by simp [hxl])
   ·refine ⟨rfl, rfl, rfl, by simp [World.setRow], fun k hk hne => setRow_other w g k _ (fun e => hne (by simp [Value.ownBlock, e]))⟩
  ·have holds : ∀ j u, xs[j]? = some u → w.cell? ((⟨g, 0, none⟩ : Addr).add j) = some u := hown.cells (g := g) rfl
   obtain ⟨v', w', h1, h2, h3, h4⟩ := new (some ⟨g, 0, none⟩) cap (by omega) (run_firstCells_some (P := P) w.drew 1 n _ n cap xs hown.1 (by simpa using holds))
   exact ⟨v', w', h1, h2, h3 _, .inr h4⟩
section
variable {X : Cx} {o : Oper} {d : Nat} {x y : Operand} {ts : List (Nat × TV)} {bs : List (Nat × TypeId × List TV)} {rs : List (Nat × RowS)} {α : Type} {enc : α → List PV}
theorem s_appendZ {t ti T : TypeId} {k : Nat} {c : Int} {l l3 : List α} (z : α) {zv : Value} (hq : app l (List.replicate c.toNat z) = some l3) (hc : 0 ≤ c) (ho : o.op = .call { callee := .builtin .append, args := #[x, y], argTypes := #[t, ti] }) (hd : o.dst = some d) (hdn : Nat.ble (d + 1) X.nt = true)
  (hx : evT ⟨ts, bs, rs⟩ x = some (.row k)) (hk : lk rs k = some ⟨T, 1, l.map enc⟩) (hy : evT ⟨ts, bs, rs⟩ y = some (.pv (.i c))) (ht : X.P.underlying t = some (.slice T)) (hti : X.P.underlying ti = some (.int .i64)) (hz : enc z = [.val zv])
  (hi : ∃ i, X.P.info? T = some i ∧ i.zero = some zv ∧ i.size = 1 ∧ 0 < i.bytes ∧ i.bytes ≤ 64) (hzc : zv.cells = #[zv]) (hz1 : zv.oneCell' = true) :
  Step X o ⟨ts, bs, rs⟩ ⟨(d, .row k) :: (Env.sub ⟨ts, bs, rs⟩ k .junk).ts, (Env.sub ⟨ts, bs, rs⟩ k .junk).bs, (k, ⟨T, 1, l3.map enc⟩) :: rs⟩ := by
 intro g F a w K Q hr hK
 obtain ⟨p1, p2⟩ := app_eq hq
 subst p2
 have hxv := evT_rel hr hx
 have hyv := evT_val hr hy
 obtain ⟨v0, inner, q1, q2, q3, q4⟩ := hr.rs k _ hk
 have e0 : a.eval x = v0 := Option.some.inj (hxv.symm.trans q1)
 obtain ⟨i, i1, i2, i3, i4, i5⟩ := hi
 obtain ⟨m, rfl⟩ := Int.eq_ofNat_of_zero_le hc
 have hm : (((m : Nat) : Int)).toNat = m := rfl
 rw [hm] at *
 have hlen : (l.map enc).length = l.length := List.length_map _
 obtain ⟨v', w', r1, r2, r3, r4⟩ := run_append_z (P := X.P) w X.w0.heap.size t ti o.type T i zv ht hti i1 i2 hzc hz1 i3 i4 i5 v0 _ m inner q2 (by simpa using p1) hr.ext.size
 unfold Oper.wp
 simp only [execOp, ho, resolve, invoke, builtin, Sem.run_bind, Sem.run_pure, Result.andThen_ok, List.map_toArray, List.map_cons, List.map_nil, e0, hyv, r1, Oper.upon, hd]
 have hfz : Flat w F 1 ((List.replicate m z).map enc) (List.replicate m zv) := by
  refine ⟨by simp, ?_, ?_⟩
  ·intro j e hj
   rw [List.getElem?_map, List.getElem?_replicate] at hj
   split at hj
   ·cases hj; rw [hz]; rfl
   ·cases hj
  ·intro j e s c u hj hs hu
   rw [List.getElem?_map, List.getElem?_replicate] at hj
   split at hj
   ·cases hj
    rw [hz] at hs
    match s with
    | 0 =>
     cases hs
     rw [List.getElem?_replicate] at hu
     split at hu
     ·cases hu; exact .val _
     ·cases hu
    | s + 1 => cases hs
   ·cases hj
 have hr' := hr.setrow (R' := ⟨T, 1, (l ++ List.replicate m z).map enc⟩) (inner' := inner ++ List.replicate m zv) hk q1 (turns_grown hr q1 r3) (by simpa using r2) (by rw [List.map_append]; exact flat_app q3 hfz) r4
 exact hK _ F _ _ (hr'.put (Nat.le_of_ble_eq_true hdn) (if_pos rfl))
def appz (l : List ByteArray) (c : Int) : Option (List ByteArray) := bif decide (0 ≤ c) then app l (List.replicate c.toNat ⟨#[]⟩) else none
theorem s_appendZS {t ti T : TypeId} {k : Nat} {c : Int} {l l3 : List ByteArray} (hq : appz l c = some l3) (ho : o.op = .call { callee := .builtin .append, args := #[x, y], argTypes := #[t, ti] }) (hd : o.dst = some d) (hdn : Nat.ble (d + 1) X.nt = true)
  (hx : evT ⟨ts, bs, rs⟩ x = some (.row k)) (hk : lk rs k = some ⟨T, 1, l.map eS⟩) (hy : evT ⟨ts, bs, rs⟩ y = some (.pv (.i c))) (ht : X.P.underlying t = some (.slice T)) (hti : X.P.underlying ti = some (.int .i64))
  (hi : ∃ i, X.P.info? T = some i ∧ i.zero = some (.string ⟨#[]⟩) ∧ i.size = 1 ∧ 0 < i.bytes ∧ i.bytes ≤ 64) :
  Step X o ⟨ts, bs, rs⟩ ⟨(d, .row k) :: (Env.sub ⟨ts, bs, rs⟩ k .junk).ts, (Env.sub ⟨ts, bs, rs⟩ k .junk).bs, (k, ⟨T, 1, l3.map eS⟩) :: rs⟩ := by
 obtain ⟨h1, h2⟩ := bif_some hq
 exact s_appendZ (enc := eS) (⟨#[]⟩ : ByteArray) h2 (of_decide_eq_true h1) ho hd hdn hx hk hy ht hti rfl hi rfl rfl
end
theorem zi_9 : ∃ i, Tryz.prog.info? 9 = some i ∧ i.zero = some (.string ⟨#[]⟩) ∧ i.size = 1 ∧ 0 < i.bytes ∧ i.bytes ≤ 64 := by
 have h : (Tryz.prog.info? 9).bind (fun i => i.zero.map fun z => (z, i.size, i.bytes)) = some (.string ⟨#[]⟩, 1, 16) := by kernel_rfl
 obtain ⟨i, h1, h2⟩ := Option.bind_eq_some_iff.1 h
 obtain ⟨z, h3, h4⟩ := Option.map_eq_some_iff.1 h2
 simp only [Prod.mk.injEq] at h4
 exact ⟨i, h1, by rw [h3, h4.1], h4.2.1, by omega, by omega⟩
end Go.Proofs.YtohmhlkdgfcaeaaGreatDoor
namespace Go.Proofs.YtohmhlkdgfcaeaaGreatDoor
open Go Go.RowKit
theorem q {α : Sort _} {a : α} : a = a := rfl
abbrev Ev (l : List (Nat × TV)) : Env := ⟨l, [], []⟩
abbrev cLen : Call := { callee := .builtin .len, args := #[], argTypes := #[] }
section
variable {X : Cx} {ops : Array Oper} {o : Oper} {rest : List Oper} {Q : Exit → Env → Prop} {ts : List (Nat × TV)} {bs : List (Nat × TypeId × List TV)} {rs : List (Nat × RowS)} {d : Nat}
abbrev o2 := @Ops.off2
abbrev ov := @Ops.v
abbrev on := @Ops.on
abbrev on0 := @Ops.nil
abbrev ob := @Ops.b
theorem vm {x : Operand} {v : TV} (ho : o.op = .move x) (hd : o.dst = some d) (hdn : Nat.ble (d + 1) X.nt = true) (hx : evT ⟨ts, bs, rs⟩ x = some v) (hg : o.guard = none) (hk : Ops X ops rest ⟨(d, v) :: ts, bs, rs⟩ Q) : Ops X ops (o :: rest) ⟨ts, bs, rs⟩ Q := Ops.v (g_move ho hd hdn hx) hg hk
theorem va {x : Operand} {v : TV} (ho : o.op = .assign x) (hd : o.dst = some d) (hdn : Nat.ble (d + 1) X.nt = true) (hx : evT ⟨ts, bs, rs⟩ x = some v) (hg : o.guard = none) (hk : Ops X ops rest ⟨(d, v) :: ts, bs, rs⟩ Q) : Ops X ops (o :: rest) ⟨ts, bs, rs⟩ Q := Ops.v (g_assign ho hd hdn hx) hg hk
theorem vt {c x y : Operand} {v : TV} (ho : o.op = .pick c x y) (hd : o.dst = some d) (hdn : Nat.ble (d + 1) X.nt = true) (hc : evT ⟨ts, bs, rs⟩ c = some (.pv (.b true))) (hx : evT ⟨ts, bs, rs⟩ x = some v) (hg : o.guard = none) (hk : Ops X ops rest ⟨(d, v) :: ts, bs, rs⟩ Q) : Ops X ops (o :: rest) ⟨ts, bs, rs⟩ Q := Ops.v (g_pickT ho hd hdn hc hx) hg hk
theorem vf {c x y : Operand} {v : TV} (ho : o.op = .pick c x y) (hd : o.dst = some d) (hdn : Nat.ble (d + 1) X.nt = true) (hc : evT ⟨ts, bs, rs⟩ c = some (.pv (.b false))) (hx : evT ⟨ts, bs, rs⟩ y = some v) (hg : o.guard = none) (hk : Ops X ops rest ⟨(d, v) :: ts, bs, rs⟩ Q) : Ops X ops (o :: rest) ⟨ts, bs, rs⟩ Q := Ops.v (g_pickF ho hd hdn hc hx) hg hk
end
end Go.Proofs.YtohmhlkdgfcaeaaGreatDoor
namespace Go.Proofs.YtohmhlkdgfcaeaaGreatDoor
open Go Go.RowKit
set_option maxRecDepth 4000
attribute [local irreducible] W Ops GS GSG
def s_23 (n : Nat) (v0 : Drum) : Option (Bool) := bif (decide ((v0.acids.length : Int) ≤ 6)) then ( bif (decide ((v0.adds.length : Int) ≤ 15)) then ( bif (decide ((v0.strips.length : Int) ≤ 9)) then ( some ((decide ((v0.batches.length : Int) ≤ 7))) ) else ( some (false) ) ) else ( some (false) ) ) else ( some (false) )
theorem c_23 (n : Nat) (v0 : Drum) {r : (Bool)} (h : s_23 n v0 = some r) :
  Fun Tryz.prog 23 [.agg (cDrum v0)] (.ret (.b r)) := by
 unfold s_23 at h
 refine enterW 25 Tryz.func23 q q q ?_
 intro w0 F0
 change W _ _ (Ev [(0, .pv (.agg (cDrum v0)))]) _
 refine W.seq<|W.region<|ob (g_box q q q q q) q q<|va q q q q q<|on0<|Sq.n<|W.seq<|W.region<|ov (g_fld q q q q fl_27_0) q<|ov (g_load1 q q q q q q ag_22) q<|ov (g_lenM (l := v0.acids) (enc := cAcid) q ul_22 q q q) q<|ov (g_leq q q q q q) q<|vm q q q q q<|Ops.split 7 q (fun hb => ?_) (fun hb => ?_)
 ·have h := bif_t h hb
  refine on q q q<|ov (g_fld q q q q fl_27_3) q<|on q q q<|ov (g_load1 q q q q q q ag_23) q<|on q q q<|ov (g_lenM (l := v0.adds) (enc := eI) q ul_23 q q q) q<|on q q q<|ov (g_leq q q q q q) q<|vt q q q q q q<|vm q q q q q<|Ops.split 13 q (fun hb => ?_) (fun hb => ?_)
  ·have h := bif_t h hb
   refine on q q q<|ov (g_fld q q q q fl_27_4) q<|on q q q<|ov (g_load1 q q q q q q ag_24) q<|on q q q<|ov (g_lenM (l := v0.strips) (enc := cStrip) q ul_24 q q q) q<|on q q q<|ov (g_leq q q q q q) q<|vt q q q q q q<|vm q q q q q<|Ops.split 19 q (fun hb => ?_) (fun hb => ?_)
   ·have h := bif_t h hb
    refine on q q q<|ov (g_fld q q q q fl_27_5) q<|on q q q<|ov (g_load1 q q q q q q ag_25) q<|on q q q<|ov (g_lenM (l := v0.batches) (enc := cBatch) q ul_25 q q q) q<|on q q q<|ov (g_leq q q q q q) q<|vt q q q q q q<|va q q q q q<|on0<|Sq.n<|W.ret ?_
    obtain rfl := Option.some.inj h
    exact Fin.r q (.cons (.tmp _ _ q) .nil) q
   ·have h := bif_f h hb
    refine o2 q q q q q q<|o2 q q q q q q<|o2 q q q q q q<|o2 q q q q q q<|vf q q q q q q<|va q q q q q<|on0<|Sq.n<|W.ret ?_
    obtain rfl := Option.some.inj h
    exact Fin.r q (.cons (.tmp _ _ q) .nil) q
  ·have h := bif_f h hb
   refine o2 q q q q q q<|o2 q q q q q q<|o2 q q q q q q<|o2 q q q q q q<|vf q q q q q q<|vm q q q q q<|o2 q q q q q q<|o2 q q q q q q<|o2 q q q q q q<|o2 q q q q q q<|vf q q q q q q<|va q q q q q<|on0<|Sq.n<|W.ret ?_
   obtain rfl := Option.some.inj h
   exact Fin.r q (.cons (.tmp _ _ q) .nil) q
 ·have h := bif_f h hb
  refine o2 q q q q q q<|o2 q q q q q q<|o2 q q q q q q<|o2 q q q q q q<|vf q q q q q q<|vm q q q q q<|o2 q q q q q q<|o2 q q q q q q<|o2 q q q q q q<|o2 q q q q q q<|vf q q q q q q<|vm q q q q q<|o2 q q q q q q<|o2 q q q q q q<|o2 q q q q q q<|o2 q q q q q q<|vf q q q q q q<|va q q q q q<|on0<|Sq.n<|W.ret ?_
  obtain rfl := Option.some.inj h
  exact Fin.r q (.cons (.tmp _ _ q) .nil) q
def s_85 (n : Nat) (v0 : Filled) (v1 : Int) : Option (Int) := (ix v0.strong v1).bind fun v101 => some (v101.low)
theorem c_85 (n : Nat) (v0 : Filled) (v1 : Int) {r : (Int)} (h : s_85 n v0 v1 = some r) :
  Fun Tryz.prog 85 [.agg (cFilled v0), .val (.int .i64 v1)] (.ret (.val (.int .i64 r))) := by
 unfold s_85 at h
 refine enterW 11 Tryz.func85 q q q ?_
 intro w0 F0
 change W _ _ (Ev [(0, .pv (.agg (cFilled v0))), (1, .pv (.i v1))]) _
 refine W.seq<|W.region<|ob (g_box q q q q q) q q<|va q q q q q<|on0<|Sq.n<|W.seq<|W.region<|ov (g_fld q q q q fl_115_2) q<|ov (g_load1 q q q q q q ag_30) q<|vm q q q q q ?_
 obtain ⟨v101, e101, h⟩ := bind_some h
 refine ov (g_idxI (l := v0.strong) (enc := cSpan) e101 q q q q q el_30 q) q<|ov (g_fldR q q q q fl_57_0 q) q<|ov (g_loadR1 q q q q q ag_3) q<|va q q q q q<|on0<|Sq.n<|W.ret ?_
 obtain rfl := Option.some.inj h
 exact Fin.r q (.cons (.tmp _ _ q) .nil) q
def s_86 (n : Nat) (v0 : Filled) (v1 : Int) : Option (Int) := (ix v0.strong v1).bind fun v101 => some (v101.high)
theorem c_86 (n : Nat) (v0 : Filled) (v1 : Int) {r : (Int)} (h : s_86 n v0 v1 = some r) :
  Fun Tryz.prog 86 [.agg (cFilled v0), .val (.int .i64 v1)] (.ret (.val (.int .i64 r))) := by
 unfold s_86 at h
 refine enterW 11 Tryz.func86 q q q ?_
 intro w0 F0
 change W _ _ (Ev [(0, .pv (.agg (cFilled v0))), (1, .pv (.i v1))]) _
 refine W.seq<|W.region<|ob (g_box q q q q q) q q<|va q q q q q<|on0<|Sq.n<|W.seq<|W.region<|ov (g_fld q q q q fl_115_2) q<|ov (g_load1 q q q q q q ag_30) q<|vm q q q q q ?_
 obtain ⟨v101, e101, h⟩ := bind_some h
 refine ov (g_idxI (l := v0.strong) (enc := cSpan) e101 q q q q q el_30 q) q<|ov (g_fldR q q q q fl_57_1 q) q<|ov (g_loadR1 q q q q q ag_3) q<|va q q q q q<|on0<|Sq.n<|W.ret ?_
 obtain rfl := Option.some.inj h
 exact Fin.r q (.cons (.tmp _ _ q) .nil) q
def s_87 (n : Nat) (v0 : Int) (v1 : Int) (v2 : Int) : Option (Bool) := bif (decide (v1 ≤ v0)) then ( some ((decide (v0 ≤ v2))) ) else ( some (false) )
theorem c_87 (n : Nat) (v0 : Int) (v1 : Int) (v2 : Int) {r : (Bool)} (h : s_87 n v0 v1 v2 = some r) :
  Fun Tryz.prog 87 [.val (.int .i64 v0), .val (.int .i64 v1), .val (.int .i64 v2)] (.ret (.b r)) := by
 unfold s_87 at h
 refine enterW 15 Tryz.func87 q q q ?_
 intro w0 F0
 change W _ _ (Ev [(0, .pv (.i v0)), (1, .pv (.i v1)), (2, .pv (.i v2))]) _
 refine W.seq<|W.region<|va q q q q q<|on0<|Sq.n<|W.seq<|W.region<|vm q q q q q<|vm q q q q q<|ov (g_geq q q q q q) q<|vm q q q q q<|Ops.split 10 q (fun hb => ?_) (fun hb => ?_)
 ·have h := bif_t h hb
  refine on q q q<|vm q q q q q<|on q q q<|vm q q q q q<|on q q q<|ov (g_leq q q q q q) q<|vt q q q q q q<|va q q q q q<|on0<|Sq.n<|W.ret ?_
  obtain rfl := Option.some.inj h
  exact Fin.r q (.cons (.tmp _ _ q) .nil) q
 ·have h := bif_f h hb
  refine o2 q q q q q q<|o2 q q q q q q<|o2 q q q q q q<|vf q q q q q q<|va q q q q q<|on0<|Sq.n<|W.ret ?_
  obtain rfl := Option.some.inj h
  exact Fin.r q (.cons (.tmp _ _ q) .nil) q
def s_28_l1 (v0 : (List Span)) (v1 : (List Span)) : Nat → Int → Option (Bool)
| 0, _ => none
| k1 + 1, v103 => bif (decide (v103 < (v0.length : Int))) then ( (ix v0 v103).bind fun v106 => (ix v1 v103).bind fun v107 => bif (!decide (v106 = v107)) then ( some (false) ) else ( (s_28_l1 v0 v1 k1) (wr (v103 + 1)) ) ) else ( some (true) )
def s_28 (n : Nat) (v0 : (List Span)) (v1 : (List Span)) : Option (Bool) := bif (!decide ((v0.length : Int) = (v1.length : Int))) then ( some (false) ) else ( s_28_l1 v0 v1 n 0 )
theorem c_28 (n : Nat) (v0 : (List Span)) (v1 : (List Span)) {r : (Bool)} (h : s_28 n v0 v1 = some r) :
  Fun Tryz.prog 28 [.sl (v0.map cSpan), .sl (v1.map cSpan)] (.ret (.b r)) := by
 unfold s_28 at h
 refine enterW 26 Tryz.func28 q q q ?_
 intro w0 F0
 change W _ _ (Ev [(0, .pv (.sl (List.map cSpan v0))), (1, .pv (.sl (List.map cSpan v1)))]) _
 refine W.seq<|W.region<|va q q q q q<|on0<|Sq.n<|W.seq<|W.seq<|W.region<|vm q q q q q<|ov (g_lenM (l := v0) (enc := cSpan) q ul_30 q q q) q<|vm q q q q q<|ov (g_lenM (l := v1) (enc := cSpan) q ul_30 q q q) q<|ov (g_neq q q q q q) q<|on0<|Sq.n<|W.cond (b := (!decide ((v0.length : Int) = (v1.length : Int)))) q (fun hc => ?_) (fun hc => ?_)
 ·have h := bif_t h hc
  refine W.seq<|W.region<|va q q q q q<|on0<|Sq.n<|W.ret<|Sq.r ?_
  obtain rfl := Option.some.inj h
  exact Fin.r q (.cons (.tmp _ _ q) .nil) q
 ·have h := bif_f h hc
  refine W.skip<|Sq.n<|W.seq<|W.seq<|W.region<|va q q q q q<|on0<|Sq.n<|W.block<|W.loop (σ := Nat × Int) (fun s => (Ev [(0, .pv (.sl (List.map cSpan v0))), (1, .pv (.sl (List.map cSpan v1))), (5, .pv (.i s.2))])) (fun s => s_28_l1 v0 v1 s.1 s.2 = some r) (fun s => s.1) (n, 0) h (has_mk ⟨q, q, q, trivial⟩ trivial trivial q) ?_
  rintro ⟨k1, v103⟩ h
  change s_28_l1 v0 v1 k1 v103 = some r at h
  rcases k1 with _ | k1
  ·rw [s_28_l1] at h
   cases h
  ·rw [s_28_l1] at h
   change W _ _ (Ev [(0, .pv (.sl (List.map cSpan v0))), (1, .pv (.sl (List.map cSpan v1))), (5, .pv (.i v103))]) _
   refine W.seq<|W.seq<|W.region<|vm q q q q q<|vm q q q q q<|ov (g_lenM (l := v0) (enc := cSpan) q ul_30 q q q) q<|ov (g_lss q q q q q) q<|on0<|Sq.n<|W.cond (b := (decide (v103 < (v0.length : Int)))) q (fun hc => ?_) (fun hc => ?_)
   ·have h := bif_t h hc
    refine W.skip<|Sq.n<|W.seq<|W.block<|W.seq ?_
    obtain ⟨v106, e106, h⟩ := bind_some h
    obtain ⟨v107, e107, h⟩ := bind_some h
    refine W.draw (m := 8) Checked.mixed (Pre.v (GSG.of q (g_move q q q q)) ((Pre.v (GSG.of q (g_move q q q q)) ((Pre.v (GSG.of q (g_idxI (l := v0) (enc := cSpan) e106 q q q q q el_30 q)) ((Pre.v (GSG.of q (g_loadRA q q q q ag_57 sz_57 q q)) ((Pre.v (GSG.of q (g_move q q q q)) ((Pre.v (GSG.of q (g_move q q q q)) ((Pre.v (GSG.of q (g_idxI (l := v1) (enc := cSpan) e107 q q q q q el_30 q)) ((Pre.v (GSG.of q (g_loadRA q q q q ag_57 sz_57 q q)) (Pre.nil _)))))))))))))))) (by kernel_rfl)<|ov (g_neq_57 (a := v106) (b := v107) q q q q q) q<|on0<|Sq.n<|W.cond (b := (!decide (v106 = v107))) q (fun hc => ?_) (fun hc => ?_)
    ·have h := bif_t h hc
     refine W.seq<|W.region<|va q q q q q<|on0<|Sq.n<|W.ret<|Bl.r<|Sq.r<|Sq.r<|Bl.r<|Sq.r ?_
     obtain rfl := Option.some.inj h
     exact Fin.r q (.cons (.tmp _ _ q) .nil) q
    ·have h := bif_f h hc
     exact W.skip<|Bl.n<|Sq.n<|W.region<|vm q q q q q<|ov (g_add q q q q q) q<|va q q q q q<|on0<|Sq.n<|⟨(k1, wr (v103 + 1)), h, Nat.lt_succ_self _, has_mk ⟨q, q, q, trivial⟩ trivial trivial q⟩
   ·have h := bif_f h hc
    refine W.exit<|Sq.e<|Sq.e<|Bl.e<|Sq.n<|W.seq<|W.region<|va q q q q q<|on0<|Sq.n<|W.ret ?_
    obtain rfl := Option.some.inj h
    exact Fin.r q (.cons (.tmp _ _ q) .nil) q
def s_166_l1 (v0 : (List Int)) : Nat → Int → Int → Option (Int)
| 0, _, _ => none
| k1 + 1, v102, v103 => bif (decide (v103 < (v0.length : Int))) then ( (ix v0 v103).bind fun v105 => (s_166_l1 v0 k1) (wr (v102 + v105)) (wr (v103 + 1)) ) else ( some (v102) )
def s_166 (n : Nat) (v0 : (List Int)) : Option (Int) := s_166_l1 v0 n 0 0
theorem c_166 (n : Nat) (v0 : (List Int)) {r : (Int)} (h : s_166 n v0 = some r) :
  Fun Tryz.prog 166 [.sl (v0.map eI)] (.ret (.val (.int .i64 r))) := by
 unfold s_166 at h
 refine enterW 17 Tryz.func166 q q q ?_
 intro w0 F0
 change W _ _ (Ev [(0, .pv (.sl (List.map eI v0)))]) _
 refine W.seq<|W.region<|va q q q q q<|on0<|Sq.n<|W.seq<|W.region<|va q q q q q<|on0<|Sq.n<|W.seq<|W.seq<|W.region<|vm q q q q q<|ov (g_lenM (l := v0) (enc := eI) q ul_23 q q q) q<|vm q q q q q<|on0<|Sq.n<|W.block<|W.loop (σ := Nat × Int × Int) (fun s => (Ev [(3, .pv (.i s.2.1)), (6, .pv (.sl (List.map eI v0))), (7, .pv (.val (.int .i64 (v0.length : Int)))), (8, .pv (.i s.2.2))])) (fun s => s_166_l1 v0 s.1 s.2.1 s.2.2 = some r) (fun s => s.1) (n, 0, 0) h (has_mk ⟨q, q, q, q, trivial⟩ trivial trivial q) ?_
 rintro ⟨k1, v102, v103⟩ h
 change s_166_l1 v0 k1 v102 v103 = some r at h
 rcases k1 with _ | k1
 ·rw [s_166_l1] at h
  cases h
 ·rw [s_166_l1] at h
  change W _ _ (Ev [(3, .pv (.i v102)), (6, .pv (.sl (List.map eI v0))), (7, .pv (.val (.int .i64 (v0.length : Int)))), (8, .pv (.i v103))]) _
  refine W.seq<|W.region<|ov (g_lss q q q q q) q<|on0<|Sq.n<|W.seq<|W.cond (b := (decide (v103 < (v0.length : Int)))) q (fun hc => ?_) (fun hc => ?_)
  ·have h := bif_t h hc
   refine W.skip<|Sq.n<|W.seq<|W.block<|W.seq<|W.region ?_
   obtain ⟨v105, e105, h⟩ := bind_some h
   exact ov (g_idxI (l := v0) (enc := eI) e105 q q q q q el_23 q) q<|ov (g_loadR1 q q q q q ag_3) q<|va q q q q q<|on0<|Sq.n<|W.region<|vm q q q q q<|vm q q q q q<|ov (g_add q q q q q) q<|va q q q q q<|on0<|Bl.n<|Sq.n<|W.region<|ov (g_add q q q q q) q<|vm q q q q q<|on0<|Sq.n<|⟨(k1, wr (v102 + v105), wr (v103 + 1)), h, Nat.lt_succ_self _, has_mk ⟨q, q, q, q, trivial⟩ trivial trivial q⟩
  ·have h := bif_f h hc
   refine W.exit<|Sq.e<|Sq.e<|Bl.e<|Sq.n<|W.seq<|W.region<|vm q q q q q<|va q q q q q<|on0<|Sq.n<|W.ret ?_
   obtain rfl := Option.some.inj h
   exact Fin.r q (.cons (.tmp _ _ q) .nil) q
def s_143_l1 (f1 : (Strip → Option (Bool))) (v0 : (List Strip)) : Nat → Int → Option (Int)
| 0, _ => none
| k1 + 1, v103 => bif (decide (v103 < (v0.length : Int))) then ( (ix v0 v103).bind fun v106 => (f1 v106).bind fun v107 => bif v107 then ( some (v103) ) else ( (s_143_l1 f1 v0 k1) (wr (v103 + 1)) ) ) else ( some ((-1)) )
def s_143 (n : Nat) (v0 : (List Strip)) (f1 : (Strip → Option (Bool))) : Option (Int) := s_143_l1 f1 v0 n 0
theorem c_143 (n : Nat) (v0 : (List Strip)) (f1 : (Strip → Option (Bool))) {fidf1 : Nat} {firstf1 capsf1 : List PV} (hcf1 : Callable Tryz.prog fidf1) (hgf1 : ∀ x0 y, f1 x0 = some y → Fun Tryz.prog fidf1 (firstf1 ++ [.agg (cStrip x0)] ++ capsf1) (.ret (.b y))) {r : (Int)} (h : s_143 n v0 f1 = some r) :
  Fun Tryz.prog 143 [.sl (v0.map cStrip), .fn fidf1 firstf1 capsf1] (.ret (.val (.int .i64 r))) := by
 unfold s_143 at h
 refine enterW 19 Tryz.func143 q q q ?_
 intro w0 F0
 change W _ _ (Ev [(0, .pv (.sl (List.map cStrip v0))), (1, .pv (.fn fidf1 firstf1 capsf1))]) _
 refine W.seq<|W.region<|va q q q q q<|on0<|Sq.n<|W.seq<|W.seq<|W.region<|vm q q q q q<|ov (g_lenM (l := v0) (enc := cStrip) q ul_24 q q q) q<|vm q q q q q<|on0<|Sq.n<|W.block<|W.loop (σ := Nat × Int) (fun s => (Ev [(0, .pv (.sl (List.map cStrip v0))), (1, .pv (.fn fidf1 firstf1 capsf1)), (7, .pv (.val (.int .i64 (v0.length : Int)))), (8, .pv (.i s.2))])) (fun s => s_143_l1 f1 v0 s.1 s.2 = some r) (fun s => s.1) (n, 0) h (has_mk ⟨q, q, q, q, trivial⟩ trivial trivial q) ?_
 rintro ⟨k1, v103⟩ h
 change s_143_l1 f1 v0 k1 v103 = some r at h
 rcases k1 with _ | k1
 ·rw [s_143_l1] at h
  cases h
 ·rw [s_143_l1] at h
  change W _ _ (Ev [(0, .pv (.sl (List.map cStrip v0))), (1, .pv (.fn fidf1 firstf1 capsf1)), (7, .pv (.val (.int .i64 (v0.length : Int)))), (8, .pv (.i v103))]) _
  refine W.seq<|W.region<|ov (g_lss q q q q q) q<|on0<|Sq.n<|W.seq<|W.cond (b := (decide (v103 < (v0.length : Int)))) q (fun hc => ?_) (fun hc => ?_)
  ·have h := bif_t h hc
   refine W.skip<|Sq.n<|W.seq<|W.block<|W.seq<|W.region<|vm q q q q q<|va q q q q q<|on0<|Sq.n<|W.seq<|W.region<|vm q q q q q<|vm q q q q q<|vm q q q q q ?_
   obtain ⟨v106, e106, h⟩ := bind_some h
   refine ov (g_idxI (l := v0) (enc := cStrip) e106 q q q q q el_24 q) q<|ov (g_loadRA q q q q ag_92 sz_92 q q) q ?_
   obtain ⟨v107, e107, h⟩ := bind_some h
   refine ov (g_callv q q q q hcf1 q (hgf1 _ _ e107)) q<|on0<|Sq.n<|W.cond (b := v107) q (fun hc => ?_) (fun hc => ?_)
   ·have h := bif_t h hc
    refine W.seq<|W.region<|vm q q q q q<|va q q q q q<|on0<|Sq.n<|W.ret<|Bl.r<|Sq.r<|Sq.r<|Bl.r<|Sq.r ?_
    obtain rfl := Option.some.inj h
    exact Fin.r q (.cons (.tmp _ _ q) .nil) q
   ·have h := bif_f h hc
    exact W.skip<|Bl.n<|Sq.n<|W.region<|ov (g_add q q q q q) q<|vm q q q q q<|on0<|Sq.n<|⟨(k1, wr (v103 + 1)), h, Nat.lt_succ_self _, has_mk ⟨q, q, q, q, trivial⟩ trivial trivial q⟩
  ·have h := bif_f h hc
   refine W.exit<|Sq.e<|Sq.e<|Bl.e<|Sq.n<|W.seq<|W.region<|va q q q q q<|on0<|Sq.n<|W.ret ?_
   obtain rfl := Option.some.inj h
   exact Fin.r q (.cons (.tmp _ _ q) .nil) q
def s_96 (n : Nat) (v0 : Strip) (v1 : Int) : Option (Bool) := some ((decide (v1 ≤ v0.hour)))
theorem c_96 (n : Nat) (v0 : Strip) (v1 : Int) {r : (Bool)} (h : s_96 n v0 v1 = some r) :
  Fun Tryz.prog 96 [.agg (cStrip v0), .ref [.val (.int .i64 v1)]] (.ret (.b r)) := by
 unfold s_96 at h
 refine enterW 8 Tryz.func96 q q q ?_
 intro w0 F0
 change W _ _ (Ev [(0, .pv (.agg (cStrip v0))), (1, .pv (.ref [.val (.int .i64 v1)]))]) _
 refine W.seq<|W.region<|ob (g_box q q q q q) q q<|va q q q q q<|on0<|Sq.n<|W.seq<|W.region<|ov (g_fld q q q q fl_92_0) q<|ov (g_load1 q q q q q q ag_3) q<|ov (g_loadR1 q q q q q ag_3) q<|ov (g_geq q q q q q) q<|va q q q q q<|on0<|Sq.n<|W.ret ?_
 obtain rfl := Option.some.inj h
 exact Fin.r q (.cons (.tmp _ _ q) .nil) q
def s_144 (n : Nat) : Option (Span) := some ((Span.mk 1 0))
theorem c_144 (n : Nat)  {r : (Span)} (h : s_144 n  = some r) :
  Fun Tryz.prog 144 [] (.ret (.agg (cSpan r))) := by
 unfold s_144 at h
 refine enterW 2 Tryz.func144 q q q ?_
 intro w0 F0
 change W _ _ (Ev []) _
 refine W.seq<|W.region<|ob (g_alloc q q q zr_57) q q<|on0<|Sq.n<|W.seq<|W.region<|ov (g_build (cs := (cSpan (Span.mk 1 0))) q q q zr_57 st_57 q q) q<|Ops.step q (s_storeB q q q q q q sz_57 q q)<|on0<|Sq.n<|W.ret ?_
 obtain rfl := Option.some.inj h
 exact Fin.r q (.cons (.agg _ _ _ _ (cSpan (Span.mk 1 0)) q q ag_57 sz_57) .nil) q
def s_100 (n : Nat) (v0 : Windows) : Option (Int) := (shl .i64 1 (v0.own.length : Int)).bind fun v101 => some (wr (v101 - 1))
theorem c_100 (n : Nat) (v0 : Windows) {r : (Int)} (h : s_100 n v0 = some r) :
  Fun Tryz.prog 100 [.agg (cWindows v0)] (.ret (.val (.int .i64 r))) := by
 unfold s_100 at h
 refine enterW 8 Tryz.func100 q q q ?_
 intro w0 F0
 change W _ _ (Ev [(0, .pv (.agg [.sl (List.map cSpan v0.own), .cache (List.map spanP v0.own)]))]) _
 refine W.seq<|W.region<|ob (g_box q q q q q) q q<|va q q q q q<|on0<|Sq.n<|W.seq<|W.region<|ov (g_fld q q q q fl_129_0) q<|ov (g_load1 q q q q q q ag_30) q<|ov (g_lenM (l := v0.own) (enc := cSpan) q ul_30 q q q) q ?_
 obtain ⟨v101, e101, h⟩ := bind_some h
 refine ov (g_shlI e101 q q q q q) q<|ov (g_sub q q q q q) q<|va q q q q q<|on0<|Sq.n<|W.ret ?_
 obtain rfl := Option.some.inj h
 exact Fin.r q (.cons (.tmp _ _ q) .nil) q
def s_112_l1  : Nat → Int → ByteArray → Option (ByteArray)
| 0, _, _ => none
| k1 + 1, v105, v106 => bif (decide (10 ≤ v105)) then ( (quo .i64 v105 10).bind fun v110 => (rem .i64 v110 10).bind fun v111 => (cat (strOfNums ([IntKind.u8.wrap (wr (48 + v111))])) v106).bind fun v112 => (s_112_l1 k1) v110 v112 ) else ( some (v106) )
def s_112 (n : Nat) (v0 : Int) : Option (ByteArray) := (rem .i64 v0 10).bind fun v101 => s_112_l1 n v0 (strOfNums ([IntKind.u8.wrap (wr (48 + v101))]))
theorem c_112 (n : Nat) (v0 : Int) {r : (ByteArray)} (h : s_112 n v0 = some r) :
  Fun Tryz.prog 112 [.val (.int .i64 v0)] (.ret (.s r)) := by
 unfold s_112 at h
 refine enterW 23 Tryz.func112 q q q ?_
 intro w0 F0
 change W _ _ (Ev [(0, .pv (.i v0))]) _
 refine W.seq<|W.region<|va q q q q q<|on0<|Sq.n<|W.seq<|W.region<|vm q q q q q ?_
 obtain ⟨v101, e101, h⟩ := bind_some h
 refine ov (g_remI e101 q q q q q) q<|ov (g_add q q q q q) q<|ov (g_conv q q q q ⟨_, ui_3⟩ ui_5) q<|Ops.r (g_buildSlice (cs := [.val (.int .u8 (IntKind.u8.wrap (wr (48 + v101))))]) (es := List.map (eK .u8) [IntKind.u8.wrap (wr (48 + v101))]) q q q el_73 ⟨_, zr_5⟩ q q q q q q) q q<|ov (g_b2s (ns := [IntKind.u8.wrap (wr (48 + v101))]) q q q q q q q ul_73 u8_5 us_9) q<|va q q q q q<|on0<|Sq.n<|W.seq<|W.block<|W.loop (σ := Nat × Int × ByteArray) (fun s => (Ev [(0, .pv (.i s.2.1)), (3, .pv (.s s.2.2))])) (fun s => s_112_l1 s.1 s.2.1 s.2.2 = some r) (fun s => s.1) (n, v0, strOfNums ([IntKind.u8.wrap (wr (48 + v101))])) h (has_mk ⟨q, q, trivial⟩ trivial trivial q) ?_
 rintro ⟨k1, v105, v106⟩ h
 change s_112_l1 k1 v105 v106 = some r at h
 rcases k1 with _ | k1
 ·rw [s_112_l1] at h
  cases h
 ·rw [s_112_l1] at h
  change W _ _ (Ev [(0, .pv (.i v105)), (3, .pv (.s v106))]) _
  refine W.seq<|W.seq<|W.region<|vm q q q q q<|ov (g_geq q q q q q) q<|on0<|Sq.n<|W.cond (b := (decide (10 ≤ v105))) q (fun hc => ?_) (fun hc => ?_)
  ·have h := bif_t h hc
   refine W.skip<|Sq.n<|W.block<|W.seq<|W.region<|vm q q q q q ?_
   obtain ⟨v110, e110, h⟩ := bind_some h
   refine ov (g_quoI e110 q q q q q) q<|va q q q q q<|on0<|Sq.n<|W.region<|vm q q q q q ?_
   obtain ⟨v111, e111, h⟩ := bind_some h
   refine ov (g_remI e111 q q q q q) q<|ov (g_add q q q q q) q<|ov (g_conv q q q q ⟨_, ui_3⟩ ui_5) q<|Ops.r (g_buildSlice (cs := [.val (.int .u8 (IntKind.u8.wrap (wr (48 + v111))))]) (es := List.map (eK .u8) [IntKind.u8.wrap (wr (48 + v111))]) q q q el_73 ⟨_, zr_5⟩ q q q q q q) q q<|ov (g_b2s (ns := [IntKind.u8.wrap (wr (48 + v111))]) q q q q q q q ul_73 u8_5 us_9) q<|vm q q q q q ?_
   obtain ⟨v112, e112, h⟩ := bind_some h
   exact ov (g_catI e112 q q q q q) q<|va q q q q q<|on0<|Bl.n<|Sq.n<|⟨(k1, v110, v112), h, Nat.lt_succ_self _, has_mk ⟨q, q, trivial⟩ trivial trivial q⟩
  ·have h := bif_f h hc
   refine W.exit<|Sq.e<|Sq.e<|Bl.e<|Sq.n<|W.seq<|W.region<|vm q q q q q<|va q q q q q<|on0<|Sq.n<|W.ret ?_
   obtain rfl := Option.some.inj h
   exact Fin.r q (.cons (.tmp _ _ q) .nil) q
def s_129_j4 (K1 : (List Int) → Int → Option ((List Int) × Bool)) (v104 : (List Int)) (v105 : Int) (v109 : (List Int)) (v111 : Bool) : Option ((List Int) × Bool) := bif v111 then ( K1 v109 (wr (v105 + 1)) ) else ( K1 v104 (wr (v105 + 1)) )
def s_129_l1 (f1 : ((List Int) → (List Int) → Option (Bool))) (v0 : (List (List Int))) : Nat → (List Int) → Int → Option ((List Int) × Bool)
| 0, _, _ => none
| k1 + 1, v104, v105 => bif (decide (v105 < (v0.length : Int))) then ( (ix v0 v105).bind fun v109 => bif (decide (v105 = 0)) then ( s_129_j4 (s_129_l1 f1 v0 k1) v104 v105 v109 true ) else ( (f1 v109 v104).bind fun v110 => s_129_j4 (s_129_l1 f1 v0 k1) v104 v105 v109 v110 ) ) else ( some ((v104, (decide (0 < (v0.length : Int))))) )
def s_129 (n : Nat) (v0 : (List (List Int))) (f1 : ((List Int) → (List Int) → Option (Bool))) : Option ((List Int) × Bool) := s_129_l1 f1 v0 n [] 0
theorem c_129 (n : Nat) (v0 : (List (List Int))) (f1 : ((List Int) → (List Int) → Option (Bool))) {fidf1 : Nat} {firstf1 capsf1 : List PV} (hcf1 : Callable Tryz.prog fidf1) (hgf1 : ∀ x0 x1 y, f1 x0 x1 = some y → Fun Tryz.prog fidf1 (firstf1 ++ [.sl (x0.map eI), .sl (x1.map eI)] ++ capsf1) (.ret (.b y))) {r : ((List Int) × Bool)} (h : s_129 n v0 f1 = some r) :
  Fun Tryz.prog 129 [.sl (v0.map (eL eI)), .fn fidf1 firstf1 capsf1] (.ret (.tup [.sl (r.1.map eI), .b r.2])) := by
 unfold s_129 at h
 refine enterW 30 Tryz.func129 q q q ?_
 intro w0 F0
 change W _ _ (Ev [(0, .pv (.sl (List.map (eL eI) v0))), (1, .pv (.fn fidf1 firstf1 capsf1))]) _
 refine W.seq<|W.region<|va q q q q q<|va q q q q q<|on0<|Sq.n<|W.seq<|W.region<|va q q q q q<|on0<|Sq.n<|W.seq<|W.seq<|W.region<|vm q q q q q<|ov (g_lenM (l := v0) (enc := (eL eI)) q ul_151 q q q) q<|vm q q q q q<|on0<|Sq.n<|W.block<|W.conv (Conv.nilsl 6 q)<|W.loop (σ := Nat × (List Int) × Int) (fun s => (Ev [(0, .pv (.sl (List.map (eL eI) v0))), (1, .pv (.fn fidf1 firstf1 capsf1)), (6, .pv (.sl (List.map eI s.2.1))), (9, .pv (.sl (List.map (eL eI) v0))), (10, .pv (.val (.int .i64 (v0.length : Int)))), (11, .pv (.i s.2.2))])) (fun s => s_129_l1 f1 v0 s.1 s.2.1 s.2.2 = some r) (fun s => s.1) (n, [], 0) h (has_mk ⟨q, q, q, q, q, q, trivial⟩ trivial trivial q) ?_
 rintro ⟨k1, v104, v105⟩ h
 change s_129_l1 f1 v0 k1 v104 v105 = some r at h
 rcases k1 with _ | k1
 ·rw [s_129_l1] at h
  cases h
 ·rw [s_129_l1] at h
  change W _ _ (Ev [(0, .pv (.sl (List.map (eL eI) v0))), (1, .pv (.fn fidf1 firstf1 capsf1)), (6, .pv (.sl (List.map eI v104))), (9, .pv (.sl (List.map (eL eI) v0))), (10, .pv (.val (.int .i64 (v0.length : Int)))), (11, .pv (.i v105))]) _
  refine W.seq<|W.region<|ov (g_lss q q q q q) q<|on0<|Sq.n<|W.seq<|W.cond (b := (decide (v105 < (v0.length : Int)))) q (fun hc => ?_) (fun hc => ?_)
  ·have h := bif_t h hc
   refine W.skip<|Sq.n<|W.seq<|W.block<|W.seq<|W.region<|vm q q q q q ?_
   obtain ⟨v109, e109, h⟩ := bind_some h
   refine ov (g_idxI (l := v0) (enc := (eL eI)) e109 q q q q q el_151 q) q<|ov (g_loadR1 q q q q q ag_23) q<|va q q q q q<|va q q q q q<|on0<|Sq.n<|W.seqJ (σ := Bool) (fun s => (Ev [(0, .pv (.sl (List.map (eL eI) v0))), (1, .pv (.fn fidf1 firstf1 capsf1)), (6, .pv (.sl (List.map eI v104))), (8, .pv (.sl (List.map eI v109))), (9, .pv (.sl (List.map (eL eI) v0))), (10, .pv (.val (.int .i64 (v0.length : Int)))), (11, .pv (.i v105)), (23, .pv (.b s))])) (fun s => s_129_j4 (s_129_l1 f1 v0 k1) v104 v105 v109 s = some r) ?_ ?_
   ·refine W.region<|vm q q q q q<|ov (g_eql q q q q q) q<|vm q q q q q<|Ops.split 18 q (fun hb => ?_) (fun hb => ?_)
    ·have h := bif_t h hb
     refine o2 q q q q q q<|o2 q q q q q q<|o2 q q q q q q<|o2 q q q q q q<|vt q q q q q q<|on0<|Sq.n<|⟨true, h, has_mk ⟨q, q, q, q, q, q, q, q, trivial⟩ trivial trivial q⟩
    ·have h := bif_f h hb
     refine on q q q<|vm q q q q q<|on q q q<|vm q q q q q<|on q q q<|vm q q q q q<|on q q q ?_
     obtain ⟨v110, e110, h⟩ := bind_some h
     refine ov (g_callv q q q q hcf1 q (hgf1 _ _ _ e110)) q<|vf q q q q q q<|on0<|Sq.n<|⟨v110, h, has_mk ⟨q, q, q, q, q, q, q, q, trivial⟩ trivial trivial q⟩
   ·rintro v111 h
    change s_129_j4 (s_129_l1 f1 v0 k1) v104 v105 v109 v111 = some r at h
    unfold s_129_j4 at h
    change W _ _ (Ev [(0, .pv (.sl (List.map (eL eI) v0))), (1, .pv (.fn fidf1 firstf1 capsf1)), (6, .pv (.sl (List.map eI v104))), (8, .pv (.sl (List.map eI v109))), (9, .pv (.sl (List.map (eL eI) v0))), (10, .pv (.val (.int .i64 (v0.length : Int)))), (11, .pv (.i v105)), (23, .pv (.b v111))]) _
    refine W.cond (b := v111) q (fun hc => ?_) (fun hc => ?_)
    ·have h := bif_t h hc
     exact W.region<|vm q q q q q<|va q q q q q<|on0<|Bl.n<|Sq.n<|W.region<|ov (g_add q q q q q) q<|vm q q q q q<|on0<|Sq.n<|⟨(k1, v109, wr (v105 + 1)), h, Nat.lt_succ_self _, has_mk ⟨q, q, q, q, q, q, trivial⟩ trivial trivial q⟩
    ·have h := bif_f h hc
     exact W.skip<|Bl.n<|Sq.n<|W.region<|ov (g_add q q q q q) q<|vm q q q q q<|on0<|Sq.n<|⟨(k1, v104, wr (v105 + 1)), h, Nat.lt_succ_self _, has_mk ⟨q, q, q, q, q, q, trivial⟩ trivial trivial q⟩
  ·have h := bif_f h hc
   refine W.exit<|Sq.e<|Sq.e<|Bl.e<|Sq.n<|W.seq<|W.region<|vm q q q q q<|vm q q q q q<|ov (g_lenM (l := v0) (enc := (eL eI)) q ul_151 q q q) q<|ov (g_gtr q q q q q) q<|va q q q q q<|va q q q q q<|on0<|Sq.n<|W.ret ?_
   obtain rfl := Option.some.inj h
   exact Fin.r q (.cons (.tmp _ _ q) (.cons (.tmp _ _ q) .nil)) q
def s_145 (n : Nat) (v0 : Int) (v1 : Int) : Option (Bool) := (shr .i64 v0 v1).bind fun v101 => some ((decide ((bits .and .i64 v101 1) = 1)))
theorem c_145 (n : Nat) (v0 : Int) (v1 : Int) {r : (Bool)} (h : s_145 n v0 v1 = some r) :
  Fun Tryz.prog 145 [.val (.int .i64 v0), .val (.int .i64 v1)] (.ret (.b r)) := by
 unfold s_145 at h
 refine enterW 10 Tryz.func145 q q q ?_
 intro w0 F0
 change W _ _ (Ev [(0, .pv (.i v0)), (1, .pv (.i v1))]) _
 refine W.seq<|W.region<|va q q q q q<|on0<|Sq.n<|W.seq<|W.region<|vm q q q q q<|vm q q q q q ?_
 obtain ⟨v101, e101, h⟩ := bind_some h
 refine ov (g_shrI e101 q q q q q) q<|ov (g_and q q q q q) q<|ov (g_eql q q q q q) q<|va q q q q q<|on0<|Sq.n<|W.ret ?_
 obtain rfl := Option.some.inj h
 exact Fin.r q (.cons (.tmp _ _ q) .nil) q
def s_186 (n : Nat) (v0 : Int) : Option (Bool) := some ((!decide (v0 = v0)))
theorem c_186 (n : Nat) (v0 : Int) {r : (Bool)} (h : s_186 n v0 = some r) :
  Fun Tryz.prog 186 [.val (.int .i64 v0)] (.ret (.b r)) := by
 unfold s_186 at h
 refine enterW 6 Tryz.func186 q q q ?_
 intro w0 F0
 change W _ _ (Ev [(0, .pv (.i v0))]) _
 refine W.seq<|W.region<|va q q q q q<|on0<|Sq.n<|W.seq<|W.region<|vm q q q q q<|vm q q q q q<|ov (g_neq q q q q q) q<|va q q q q q<|on0<|Sq.n<|W.ret ?_
 obtain rfl := Option.some.inj h
 exact Fin.r q (.cons (.tmp _ _ q) .nil) q
def s_58_l1 (v0 : (List Int)) (v1 : (List Int)) : Nat → Int → Option (Bool)
| 0, _ => none
| k1 + 1, v103 => bif (decide (v103 < (v0.length : Int))) then ( (ix v0 v103).bind fun v106 => (ix v1 v103).bind fun v107 => bif (!decide (v106 = v107)) then ( some (false) ) else ( (s_58_l1 v0 v1 k1) (wr (v103 + 1)) ) ) else ( some (true) )
def s_58 (n : Nat) (v0 : (List Int)) (v1 : (List Int)) : Option (Bool) := bif (!decide ((v0.length : Int) = (v1.length : Int))) then ( some (false) ) else ( s_58_l1 v0 v1 n 0 )
theorem c_58 (n : Nat) (v0 : (List Int)) (v1 : (List Int)) {r : (Bool)} (h : s_58 n v0 v1 = some r) :
  Fun Tryz.prog 58 [.sl (v0.map eI), .sl (v1.map eI)] (.ret (.b r)) := by
 unfold s_58 at h
 refine enterW 26 Tryz.func58 q q q ?_
 intro w0 F0
 change W _ _ (Ev [(0, .pv (.sl (List.map eI v0))), (1, .pv (.sl (List.map eI v1)))]) _
 refine W.seq<|W.region<|va q q q q q<|on0<|Sq.n<|W.seq<|W.seq<|W.region<|vm q q q q q<|ov (g_lenM (l := v0) (enc := eI) q ul_23 q q q) q<|vm q q q q q<|ov (g_lenM (l := v1) (enc := eI) q ul_23 q q q) q<|ov (g_neq q q q q q) q<|on0<|Sq.n<|W.cond (b := (!decide ((v0.length : Int) = (v1.length : Int)))) q (fun hc => ?_) (fun hc => ?_)
 ·have h := bif_t h hc
  refine W.seq<|W.region<|va q q q q q<|on0<|Sq.n<|W.ret<|Sq.r ?_
  obtain rfl := Option.some.inj h
  exact Fin.r q (.cons (.tmp _ _ q) .nil) q
 ·have h := bif_f h hc
  refine W.skip<|Sq.n<|W.seq<|W.seq<|W.region<|va q q q q q<|on0<|Sq.n<|W.block<|W.loop (σ := Nat × Int) (fun s => (Ev [(0, .pv (.sl (List.map eI v0))), (1, .pv (.sl (List.map eI v1))), (5, .pv (.i s.2))])) (fun s => s_58_l1 v0 v1 s.1 s.2 = some r) (fun s => s.1) (n, 0) h (has_mk ⟨q, q, q, trivial⟩ trivial trivial q) ?_
  rintro ⟨k1, v103⟩ h
  change s_58_l1 v0 v1 k1 v103 = some r at h
  rcases k1 with _ | k1
  ·rw [s_58_l1] at h
   cases h
  ·rw [s_58_l1] at h
   change W _ _ (Ev [(0, .pv (.sl (List.map eI v0))), (1, .pv (.sl (List.map eI v1))), (5, .pv (.i v103))]) _
   refine W.seq<|W.seq<|W.region<|vm q q q q q<|vm q q q q q<|ov (g_lenM (l := v0) (enc := eI) q ul_23 q q q) q<|ov (g_lss q q q q q) q<|on0<|Sq.n<|W.cond (b := (decide (v103 < (v0.length : Int)))) q (fun hc => ?_) (fun hc => ?_)
   ·have h := bif_t h hc
    refine W.skip<|Sq.n<|W.seq<|W.block<|W.seq ?_
    obtain ⟨v106, e106, h⟩ := bind_some h
    obtain ⟨v107, e107, h⟩ := bind_some h
    refine W.draw (m := 8) Checked.mixed (Pre.v (GSG.of q (g_move q q q q)) ((Pre.v (GSG.of q (g_move q q q q)) ((Pre.v (GSG.of q (g_idxI (l := v0) (enc := eI) e106 q q q q q el_23 q)) ((Pre.v (GSG.of q (g_loadR1 q q q q q ag_3)) ((Pre.v (GSG.of q (g_move q q q q)) ((Pre.v (GSG.of q (g_move q q q q)) ((Pre.v (GSG.of q (g_idxI (l := v1) (enc := eI) e107 q q q q q el_23 q)) ((Pre.v (GSG.of q (g_loadR1 q q q q q ag_3)) (Pre.nil _)))))))))))))))) (by kernel_rfl)<|ov (g_neq q q q q q) q<|on0<|Sq.n<|W.cond (b := (!decide (v106 = v107))) q (fun hc => ?_) (fun hc => ?_)
    ·have h := bif_t h hc
     refine W.seq<|W.region<|va q q q q q<|on0<|Sq.n<|W.ret<|Bl.r<|Sq.r<|Sq.r<|Bl.r<|Sq.r ?_
     obtain rfl := Option.some.inj h
     exact Fin.r q (.cons (.tmp _ _ q) .nil) q
    ·have h := bif_f h hc
     exact W.skip<|Bl.n<|Sq.n<|W.region<|vm q q q q q<|ov (g_add q q q q q) q<|va q q q q q<|on0<|Sq.n<|⟨(k1, wr (v103 + 1)), h, Nat.lt_succ_self _, has_mk ⟨q, q, q, trivial⟩ trivial trivial q⟩
   ·have h := bif_f h hc
    refine W.exit<|Sq.e<|Sq.e<|Bl.e<|Sq.n<|W.seq<|W.region<|va q q q q q<|on0<|Sq.n<|W.ret ?_
    obtain rfl := Option.some.inj h
    exact Fin.r q (.cons (.tmp _ _ q) .nil) q
def s_83 (n : Nat) (v0 : Int) (v1 : Int) : Option (Span) := some ((Span.mk v0 v1))
theorem c_83 (n : Nat) (v0 : Int) (v1 : Int) {r : (Span)} (h : s_83 n v0 v1 = some r) :
  Fun Tryz.prog 83 [.val (.int .i64 v0), .val (.int .i64 v1)] (.ret (.agg (cSpan r))) := by
 unfold s_83 at h
 refine enterW 8 Tryz.func83 q q q ?_
 intro w0 F0
 change W _ _ (Ev [(0, .pv (.i v0)), (1, .pv (.i v1))]) _
 refine W.seq<|W.region<|ob (g_alloc q q q zr_57) q q<|on0<|Sq.n<|W.seq<|W.region<|vm q q q q q<|vm q q q q q<|ov (g_build (cs := (cSpan (Span.mk v0 v1))) q q q zr_57 st_57 q q) q<|Ops.step q (s_storeB q q q q q q sz_57 q q)<|on0<|Sq.n<|W.ret ?_
 obtain rfl := Option.some.inj h
 exact Fin.r q (.cons (.agg _ _ _ _ (cSpan (Span.mk v0 v1)) q q ag_57 sz_57) .nil) q
def s_103 (n : Nat) (v0 : Int) (v1 : Int) (v2 : Int) : Option (Bool) := bif (decide (v1 ≤ v0)) then ( some ((decide (v0 ≤ v2))) ) else ( some (false) )
theorem c_103 (n : Nat) (v0 : Int) (v1 : Int) (v2 : Int) {r : (Bool)} (h : s_103 n v0 v1 v2 = some r) :
  Fun Tryz.prog 103 [.val (.int .i64 v0), .val (.int .i64 v1), .val (.int .i64 v2)] (.ret (.b r)) := by
 unfold s_103 at h
 refine enterW 15 Tryz.func103 q q q ?_
 intro w0 F0
 change W _ _ (Ev [(0, .pv (.i v0)), (1, .pv (.i v1)), (2, .pv (.i v2))]) _
 refine W.seq<|W.region<|va q q q q q<|on0<|Sq.n<|W.seq<|W.region<|vm q q q q q<|vm q q q q q<|ov (g_geq q q q q q) q<|vm q q q q q<|Ops.split 10 q (fun hb => ?_) (fun hb => ?_)
 ·have h := bif_t h hb
  refine on q q q<|vm q q q q q<|on q q q<|vm q q q q q<|on q q q<|ov (g_leq q q q q q) q<|vt q q q q q q<|va q q q q q<|on0<|Sq.n<|W.ret ?_
  obtain rfl := Option.some.inj h
  exact Fin.r q (.cons (.tmp _ _ q) .nil) q
 ·have h := bif_f h hb
  refine o2 q q q q q q<|o2 q q q q q q<|o2 q q q q q q<|vf q q q q q q<|va q q q q q<|on0<|Sq.n<|W.ret ?_
  obtain rfl := Option.some.inj h
  exact Fin.r q (.cons (.tmp _ _ q) .nil) q
def s_106_l1 (v0 : Int) : Nat → Int → Int → Option (Int)
| 0, _, _ => none
| k1 + 1, v101, v102 => bif (decide (v102 < v0)) then ( (s_106_l1 v0 k1) (wr (2 * v101)) (wr (v102 + 1)) ) else ( some (v101) )
def s_106 (n : Nat) (v0 : Int) : Option (Int) := s_106_l1 v0 n 1 0
theorem c_106 (n : Nat) (v0 : Int) {r : (Int)} (h : s_106 n v0 = some r) :
  Fun Tryz.prog 106 [.val (.int .i64 v0)] (.ret (.val (.int .i64 r))) := by
 unfold s_106 at h
 refine enterW 13 Tryz.func106 q q q ?_
 intro w0 F0
 change W _ _ (Ev [(0, .pv (.i v0))]) _
 refine W.seq<|W.region<|va q q q q q<|on0<|Sq.n<|W.seq<|W.region<|va q q q q q<|on0<|Sq.n<|W.seq<|W.seq<|W.region<|va q q q q q<|on0<|Sq.n<|W.block<|W.loop (σ := Nat × Int × Int) (fun s => (Ev [(0, .pv (.i v0)), (3, .pv (.i s.2.1)), (4, .pv (.i s.2.2))])) (fun s => s_106_l1 v0 s.1 s.2.1 s.2.2 = some r) (fun s => s.1) (n, 1, 0) h (has_mk ⟨q, q, q, trivial⟩ trivial trivial q) ?_
 rintro ⟨k1, v101, v102⟩ h
 change s_106_l1 v0 k1 v101 v102 = some r at h
 rcases k1 with _ | k1
 ·rw [s_106_l1] at h
  cases h
 ·rw [s_106_l1] at h
  change W _ _ (Ev [(0, .pv (.i v0)), (3, .pv (.i v101)), (4, .pv (.i v102))]) _
  refine W.seq<|W.seq<|W.region<|vm q q q q q<|vm q q q q q<|ov (g_lss q q q q q) q<|on0<|Sq.n<|W.cond (b := (decide (v102 < v0))) q (fun hc => ?_) (fun hc => ?_)
  ·have h := bif_t h hc
   exact W.skip<|Sq.n<|W.seq<|W.block<|W.region<|vm q q q q q<|ov (g_mul q q q q q) q<|va q q q q q<|on0<|Bl.n<|Sq.n<|W.region<|vm q q q q q<|ov (g_add q q q q q) q<|va q q q q q<|on0<|Sq.n<|⟨(k1, wr (2 * v101), wr (v102 + 1)), h, Nat.lt_succ_self _, has_mk ⟨q, q, q, trivial⟩ trivial trivial q⟩
  ·have h := bif_f h hc
   refine W.exit<|Sq.e<|Sq.e<|Bl.e<|Sq.n<|W.seq<|W.region<|vm q q q q q<|va q q q q q<|on0<|Sq.n<|W.ret ?_
   obtain rfl := Option.some.inj h
   exact Fin.r q (.cons (.tmp _ _ q) .nil) q
def s_107 (n : Nat) (v0 : Span) (v1 : Int) : Option (Bool) := bif (decide (0 ≤ v0.low)) then ( bif (decide (v0.low ≤ v0.high)) then ( some ((decide (v0.high ≤ v1))) ) else ( some (false) ) ) else ( some (false) )
theorem c_107 (n : Nat) (v0 : Span) (v1 : Int) {r : (Bool)} (h : s_107 n v0 v1 = some r) :
  Fun Tryz.prog 107 [.agg (cSpan v0), .val (.int .i64 v1)] (.ret (.b r)) := by
 unfold s_107 at h
 refine enterW 21 Tryz.func107 q q q ?_
 intro w0 F0
 change W _ _ (Ev [(0, .pv (.agg (cSpan v0))), (1, .pv (.i v1))]) _
 refine W.seq<|W.region<|ob (g_box q q q q q) q q<|va q q q q q<|on0<|Sq.n<|W.seq<|W.region<|ov (g_fld q q q q fl_57_0) q<|ov (g_load1 q q q q q q ag_3) q<|ov (g_geq q q q q q) q<|vm q q q q q<|Ops.split 8 q (fun hb => ?_) (fun hb => ?_)
 ·have h := bif_t h hb
  refine on q q q<|ov (g_fld q q q q fl_57_0) q<|on q q q<|ov (g_load1 q q q q q q ag_3) q<|on q q q<|ov (g_fld q q q q fl_57_1) q<|on q q q<|ov (g_load1 q q q q q q ag_3) q<|on q q q<|ov (g_leq q q q q q) q<|vt q q q q q q<|vm q q q q q<|Ops.split 15 q (fun hb => ?_) (fun hb => ?_)
  ·have h := bif_t h hb
   refine on q q q<|ov (g_fld q q q q fl_57_1) q<|on q q q<|ov (g_load1 q q q q q q ag_3) q<|on q q q<|vm q q q q q<|on q q q<|ov (g_leq q q q q q) q<|vt q q q q q q<|va q q q q q<|on0<|Sq.n<|W.ret ?_
   obtain rfl := Option.some.inj h
   exact Fin.r q (.cons (.tmp _ _ q) .nil) q
  ·have h := bif_f h hb
   refine o2 q q q q q q<|o2 q q q q q q<|o2 q q q q q q<|o2 q q q q q q<|vf q q q q q q<|va q q q q q<|on0<|Sq.n<|W.ret ?_
   obtain rfl := Option.some.inj h
   exact Fin.r q (.cons (.tmp _ _ q) .nil) q
 ·have h := bif_f h hb
  refine o2 q q q q q q<|o2 q q q q q q<|o2 q q q q q q<|o2 q q q q q q<|o2 q q q q q q<|vf q q q q q q<|vm q q q q q<|o2 q q q q q q<|o2 q q q q q q<|o2 q q q q q q<|o2 q q q q q q<|vf q q q q q q<|va q q q q q<|on0<|Sq.n<|W.ret ?_
  obtain rfl := Option.some.inj h
  exact Fin.r q (.cons (.tmp _ _ q) .nil) q
end Go.Proofs.YtohmhlkdgfcaeaaGreatDoor
