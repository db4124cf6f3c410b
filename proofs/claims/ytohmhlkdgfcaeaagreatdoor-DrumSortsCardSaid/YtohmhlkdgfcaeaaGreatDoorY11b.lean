/- What law 11 asks besides, part 2. -/
import Derived.KernelRfl
import Derived.Test.YtohmhlkdgfcaeaaGreatDoorY11a
set_option linter.unusedVariables false
set_option linter.unusedSimpArgs false
namespace Go.Proofs.YtohmhlkdgfcaeaaGreatDoor
section
open Go Go.RowKit
theorem yE {x : Int} (h : -9223372036854775808 ≤ x ∧ x ≤ 9223372036854775807) : wr x = x := by
 show IntKind.i64.wrap x = x
 rw [IntKind.wrap_i64]; omega
theorem xS {α : Type} {l : List α} {i : Nat} {x : α} (h : l[i]? = some x) : ix l (i : Int) = some x := by
 simp [ix, h]
def fc {α σ β : Type} (body : Nat → α → σ → (σ → Option β) → Option β) (fin : σ → Option β) : Nat → List α → σ → Option β
 | _, [], s => fin s
 | i, x :: r, s => body i x s (fc body fin (i + 1) r)
theorem bO {α σ β : Type} (l : List α) (L : Nat → Int → σ → Option β) (body : Nat → α → σ → (σ → Option β) → Option β) (fin : σ → Option β)
  (h : ∀ (k i : Nat) (s : σ), L (k + 1) (i : Int) s = bif decide ((i : Int) < ((l.length : Nat) : Int)) then (ix l (i : Int)).bind (fun x => body i x s (fun s' => L k (wr ((i : Int) + 1)) s')) else fin s)
  (hl : l.length ≤ 1000000) : ∀ (k i : Nat) (s : σ), l.length < k + i → i ≤ l.length → L k (i : Int) s = fc body fin i (l.drop i) s := by
 intro k
 induction k with
 | zero => intro i s h1 h2; omega
 | succ k ih =>
  intro i s h1 h2
  rw [h]
  by_cases hi : i < l.length
  ·have e1 : decide ((i : Int) < ((l.length : Nat) : Int)) = true := decide_eq_true (by omega)
   rw [e1, cond_true, xS (List.getElem?_eq_getElem hi), List.drop_eq_getElem_cons hi]
   simp only [Option.bind_some, fc]
   congr 1
   funext s'
   rw [yE (by omega)]
   exact_mod_cast ih (i + 1) s' (by omega) (by omega)
  ·have e1 : decide ((i : Int) < ((l.length : Nat) : Int)) = false := decide_eq_false (by omega)
   rw [e1, cond_false, List.drop_eq_nil_of_le (by omega)]
   rfl
def fn {σ β : Type} (m : Int) (body : Int → σ → (σ → Option β) → Option β) (fin : σ → Option β) : Nat → Int → σ → Option β
 | 0, _, s => fin s
 | r + 1, i, s => body i s (fn m body fin r (i + 1))
theorem zDT {σ β : Type} (m : Int) (L : Nat → Int → σ → Option β) (body : Int → σ → (σ → Option β) → Option β) (fin : σ → Option β)
  (h : ∀ (k : Nat) (i : Int) (s : σ), L (k + 1) i s = bif decide (i < m) then body i s (fun s' => L k (wr (i + 1)) s') else fin s)
  (hm : m ≤ 1000000) : ∀ (r k : Nat) (i : Int) (s : σ), 0 ≤ i → i + r = m → r < k → L k i s = fn m body fin r i s := by
 intro r
 induction r with
 | zero =>
  intro k i s h0 h1 h2
  obtain ⟨k, rfl⟩ : ∃ k', k = k' + 1 := ⟨k - 1, by omega⟩
  have e1 : decide (i < m) = false := decide_eq_false (by omega)
  rw [h, e1, cond_false]; rfl
 | succ r ih =>
  intro k i s h0 h1 h2
  obtain ⟨k, rfl⟩ : ∃ k', k = k' + 1 := ⟨k - 1, by omega⟩
  have e1 : decide (i < m) = true := decide_eq_true (by omega)
  rw [h, e1, cond_true]
  simp only [fn]
  congr 1
  funext s'
  rw [yE (by omega)]
  exact ih k (i + 1) s' (by omega) (by omega) (by omega)
theorem zTF {α : Type} (p : α → Bool) (fin : Option Bool) : ∀ (l : List α) (i : Nat), fc (σ := Unit) (fun _ x s K => bif p x then K s else some false) (fun _ => fin) i l () = bif l.all p then fin else some false := by
 intro l
 induction l with
 | nil => intro i; rfl
 | cons x r ih =>
  intro i
  simp only [fc, List.all_cons]
  cases p x
  ·rfl
  ·rw [cond_true, ih]; rfl
theorem rG {α : Type} (l : List α) (L : Nat → Int → Option Bool) (p : α → Bool) (fin : Option Bool)
  (h : ∀ (k i : Nat), L (k + 1) (i : Int) = bif decide ((i : Int) < ((l.length : Nat) : Int)) then (ix l (i : Int)).bind (fun x => bif p x then L k (wr ((i : Int) + 1)) else some false) else fin)
  (hl : l.length ≤ 1000000) {k : Nat} (hk : l.length < k) : L k 0 = bif l.all p then fin else some false := by
 have := bO l (fun k i (_ : Unit) => L k i) (fun _ x s K => bif p x then K s else some false) (fun _ => fin) (fun k i _ => h k i) hl k 0 () (by omega) (by omega)
 rw [zTF] at this
 exact this
def qF {α : Type} (p : α → Bool) : Nat → List α → Int
 | _, [] => -1
 | i, x :: r => bif p x then (i : Int) else qF p (i + 1) r
theorem nB {α : Type} (p : α → Bool) : ∀ (l : List α) (i : Nat), decide (0 ≤ qF p i l) = l.any p := by
 intro l
 induction l with
 | nil => intro i; rfl
 | cons x r ih =>
  intro i
  rw [qF, List.any_cons]
  rcases Bool.eq_false_or_eq_true (p x) with h | h
  ·rw [h, cond_true]; exact decide_eq_true (by omega)
  ·rw [h, cond_false, ih]; rfl
theorem nA {α : Type} (l : List α) (f : α → Option Bool) (p : α → Bool) (hf : ∀ x ∈ l, f x = some (p x)) (L : Nat → Int → Option Int)
  (h : ∀ (k i : Nat), L (k + 1) (i : Int) = bif decide ((i : Int) < ((l.length : Nat) : Int)) then (ix l (i : Int)).bind (fun x => (f x).bind fun b => bif b then some (i : Int) else L k (wr ((i : Int) + 1))) else some (-1))
  (hl : l.length ≤ 1000000) {k : Nat} (hk : l.length < k) : L k 0 = some (qF p 0 l) := by
 have h1 := bO l (fun k i (_ : Unit) => L k i) (fun i x s K => (f x).bind fun b => bif b then some (i : Int) else K s) (fun _ => some (-1)) (fun k i _ => h k i) hl k 0 () (by omega) (by omega)
 rw [List.drop_zero] at h1
 have key : ∀ (l' : List α) (i : Nat), (∀ x ∈ l', f x = some (p x)) → fc (σ := Unit) (fun i x s K => (f x).bind fun b => bif b then some (i : Int) else K s) (fun _ => some (-1)) i l' () = some (qF p i l') := by
  intro l'
  induction l' with
  | nil => intro i _; rfl
  | cons x r ih =>
   intro i hx
   simp only [fc, qF, hx x List.mem_cons_self, Option.bind_some]
   cases p x
   ·rw [cond_false, cond_false]; exact ih (i + 1) (fun y hy => hx y (List.mem_cons_of_mem _ hy))
   ·rfl
 exact h1.trans (key l 0 hf)
def inb (v a b : Int) : Bool := decide (a ≤ v) && decide (v ≤ b)
theorem zDH (n : Nat) (v a b : Int) : fG n v a b = some (inb v a b) := by unfold fG inb; cases decide (a ≤ v) <;> rfl
theorem vS (n : Nat) (v a b : Int) : fO n v a b = some (inb v a b) := by unfold fO inb; cases decide (a ≤ v) <;> rfl
def spb (s : zC) (m : Int) : Bool := decide (0 ≤ s.low) && (decide (s.low ≤ s.high) && decide (s.high ≤ m))
theorem zWR (n : Nat) (s : zC) (m : Int) : tH n s m = some (spb s m) := by unfold tH spb; cases decide (0 ≤ s.low) <;> cases decide (s.low ≤ s.high) <;> rfl
theorem zWE (n : Nat) (s : zC) (m : Int) : tA n s m = some (spb s m) := by unfold tA spb; cases decide (0 ≤ s.low) <;> cases decide (s.low ≤ s.high) <;> rfl
def okA (a : xO) : Bool := spb a.strength 100 && spb a.fall 20
def okS (h : Int) (s : xM) : Bool := inb s.hour 0 (wr (h - 1)) && (inb s.seen 0 2000 && inb s.off 0 50)
def iA (b : yI) : Bool := inb b.rough 0 1000 && (inb b.goal 0 1000 && (inb b.thick 0 1000 && (inb b.least 0 1000 && (inb b.polish 0 100 && inb b.eat 0 100))))
def okL (d : zN) : Bool := d.acids.all okA && (d.adds.all (fun x => inb x 0 100) && (d.strips.all (okS d.hours) && d.batches.all iA))
def okN (d : zN) : Bool := inb d.acids.length 1 4 && (inb d.known 1 (2 ^ d.acids.length - 1) && (inb d.hours 1 12 && (decide ((d.adds.length : Int) = d.hours) && (decide ((d.strips.length : Int) ≤ 6) && inb d.batches.length 1 5))))
def okD (d : zN) : Bool := okN d && okL d
theorem tM {v a b : Int} : inb v a b = true ↔ a ≤ v ∧ v ≤ b := by simp [inb]
theorem zPU {s : zC} {m : Int} : spb s m = true ↔ s.ok m := by simp [spb, zC.ok]
theorem zFS {a : xO} : okA a = true ↔ a.ok := by simp [okA, xO.ok, zPU]
theorem zFR {h : Int} {s : xM} (hh : 1 ≤ h ∧ h ≤ 12) : okS h s = true ↔ s.ok h := by
 unfold okS
 rw [yE (by omega)]
 simp [xM.ok, tM]
theorem zDO {b : yI} : iA b = true ↔ b.ok := by simp [iA, yI.ok, tM]
theorem iJ {d : zN} : okD d = true ↔ d.ok := by
 constructor
 ·intro h
  simp only [okD, okN, okL, Bool.and_eq_true, tM, decide_eq_true_eq, List.all_eq_true] at h
  obtain ⟨⟨h1, h2, h3, h4, h5, h6⟩, h7, h8, h9, h10⟩ := h
  exact ⟨by omega, h2, h3, h4, by omega, by omega, fun a ha => zFS.1 (h7 a ha), h8, fun s hs => (zFR h3).1 (h9 s hs), fun b hb => zDO.1 (h10 b hb)⟩
 ·intro h
  simp only [okD, okN, okL, Bool.and_eq_true, tM, decide_eq_true_eq, List.all_eq_true]
  have h1 := h.acl
  have h5 := h.stl
  have h6 := h.btl
  exact ⟨⟨by omega, h.kn, h.hr, h.adl, by omega, by omega⟩, fun a ha => zFS.2 (h.ac a ha), h.ad, fun s hs => (zFR h.hr).2 (h.st s hs), fun b hb => zDO.2 (h.bt b hb)⟩
structure eQ (d : zN) : Prop where
 a : d.acids.length ≤ 6
 b : d.adds.length ≤ 15
 c : d.strips.length ≤ 9
 e : d.batches.length ≤ 7
def sF (d : zN) : Bool := decide (((d.acids.length : Nat) : Int) ≤ 6) && (decide (((d.adds.length : Nat) : Int) ≤ 15) && (decide (((d.strips.length : Nat) : Int) ≤ 9) && decide (((d.batches.length : Nat) : Int) ≤ 7)))
theorem zGO {d : zN} : sF d = true ↔ eQ d := by
 simp only [sF, Bool.and_eq_true, decide_eq_true_eq]
 exact ⟨fun h => ⟨by omega, by omega, by omega, by omega⟩, fun h => ⟨by have := h.a; omega, by have := h.b; omega, by have := h.c; omega, by have := h.e; omega⟩⟩
theorem yAW (n : Nat) (d : zN) : zDB n d = some (sF d) := by
 unfold zDB sF
 cases decide (((d.acids.length : Nat) : Int) ≤ 6) <;> cases decide (((d.adds.length : Nat) : Int) ≤ 15) <;> cases decide (((d.strips.length : Nat) : Int) ≤ 9) <;> rfl
section
variable {n : Nat} {d : zN}
theorem zLZ (hn : 100 ≤ n) (hs : eQ d) : jR n d n 0 = some (d.batches.all iA) := by
 have := hs.e
 rw [rG d.batches (jR n d) iA (some true) (fun k i => ?_) (by omega) (by omega)]
 ·cases d.batches.all iA <;> rfl
 ·rw [jR]
  congr 1
  congr 1
  funext x
  simp only [vS, Option.bind_some, iA, bV]
  cases inb x.rough 0 1000 <;> cases inb x.goal 0 1000 <;> cases inb x.thick 0 1000 <;> cases inb x.least 0 1000 <;> cases inb x.polish 0 100 <;> cases inb x.eat 0 100 <;> rfl
theorem zMA (hn : 100 ≤ n) (hs : eQ d) : gN n d n 0 = some (d.strips.all (okS d.hours) && d.batches.all iA) := by
 have := hs.c
 rw [rG d.strips (gN n d) (okS d.hours) (some (d.batches.all iA)) (fun k i => ?_) (by omega) (by omega)]
 ·cases d.strips.all (okS d.hours) <;> rfl
 ·rw [gN, zLZ hn hs]
  congr 1
  congr 1
  funext x
  simp only [vS, Option.bind_some, okS, hO]
  cases inb x.hour 0 (wr (d.hours - 1)) <;> cases inb x.seen 0 2000 <;> cases inb x.off 0 50 <;> rfl
theorem zQM (hn : 100 ≤ n) (hs : eQ d) : eC n d n 0 = some (d.adds.all (fun x => inb x 0 100) && (d.strips.all (okS d.hours) && d.batches.all iA)) := by
 have := hs.b
 rw [rG d.adds (eC n d) (fun x => inb x 0 100) (some (d.strips.all (okS d.hours) && d.batches.all iA)) (fun k i => ?_) (by omega) (by omega)]
 ·cases d.adds.all (fun x => inb x 0 100) <;> rfl
 ·rw [eC, zMA hn hs]
  congr 1
  congr 1
  funext x
  simp only [vS, Option.bind_some]
  cases inb x 0 100 <;> rfl
theorem zQN (hn : 100 ≤ n) (hs : eQ d) : bI n d n 0 = some (okL d) := by
 have := hs.a
 rw [rG d.acids (bI n d) okA (some (d.adds.all (fun x => inb x 0 100) && (d.strips.all (okS d.hours) && d.batches.all iA))) (fun k i => ?_) (by omega) (by omega)]
 ·unfold okL; cases d.acids.all okA <;> rfl
 ·rw [bI, zQM hn hs]
  by_cases hi : i < d.acids.length
  ·have e := xS (List.getElem?_eq_getElem hi)
   simp only [e, Option.bind_some, zWR, okA, nR]
   cases spb d.acids[i].strength 100 <;> cases spb d.acids[i].fall 20 <;> rfl
  ·have e1 : decide ((i : Int) < ((d.acids.length : Nat) : Int)) = false := decide_eq_false (by omega)
   rw [e1, cond_false, cond_false]
theorem zNX (hn : 100 ≤ n) {m : Nat} (hm : m ≤ 40) : tI n (m : Int) = some (2 ^ m) := by
 have h1 : ∀ (r k : Nat) (i : Nat), i + r = m → r < k → aW (m : Int) k (2 ^ i) (i : Int) = some (2 ^ m) := by
  intro r
  induction r with
  | zero =>
   intro k i hi hk
   obtain ⟨k, rfl⟩ : ∃ k', k = k' + 1 := ⟨k - 1, by omega⟩
   have e1 : decide ((i : Int) < (m : Int)) = false := decide_eq_false (by omega)
   have : i = m := by omega
   subst this
   rw [aW, e1, cond_false]
  | succ r ih =>
   intro k i hi hk
   obtain ⟨k, rfl⟩ : ∃ k', k = k' + 1 := ⟨k - 1, by omega⟩
   have e1 : decide ((i : Int) < (m : Int)) = true := decide_eq_true (by omega)
   have h6 : -9223372036854775808 ≤ (2 : Int) * 2 ^ i ∧ (2 : Int) * 2 ^ i ≤ 9223372036854775807 := by
    obtain ⟨p, hp, hp2⟩ : ∃ p : Nat, (2 : Int) ^ i = (p : Int) ∧ p ≤ 2 ^ 40 := ⟨2 ^ i, by push_cast; rfl, Nat.pow_le_pow_right (by omega) (by omega)⟩
    rw [hp]
    omega
   rw [aW, e1, cond_true, yE (x := 2 * 2 ^ i) h6, yE (x := (i : Int) + 1) (by omega)]
   have := ih k (i + 1) (by omega) (by omega)
   rw [show (2 : Int) * 2 ^ i = 2 ^ (i + 1) by rw [Int.pow_succ]; omega]
   exact_mod_cast this
 have := h1 m n 0 (by omega) (by omega)
 simpa [tI] using this
theorem yAT (hn : 100 ≤ n) (hs : eQ d) : zCY n d = some (okD d) := by
 have h1 := hs.a
 unfold zCY
 rw [zNX hn (by omega)]
 simp only [vS, Option.bind_some, cL, zQN hn hs]
 have h3 : (2 : Int) ^ d.acids.length ≤ 64 := by
  have : (2 : Nat) ^ d.acids.length ≤ 2 ^ 6 := Nat.pow_le_pow_right (by omega) h1
  exact_mod_cast this
 have h4 : (0 : Int) < 2 ^ d.acids.length := by
  have : (0 : Nat) < 2 ^ d.acids.length := Nat.pow_pos (by omega)
  exact_mod_cast this
 rw [yE (by omega)]
 have h5 : decide (6 < ((d.strips.length : Nat) : Int)) = !decide (((d.strips.length : Nat) : Int) ≤ 6) := by
  by_cases h : ((d.strips.length : Nat) : Int) ≤ 6
  ·simp [h]
  ·simp [h]; omega
 rw [h5]
 unfold okD okN
 cases inb d.acids.length 1 4 <;> cases inb d.known 1 (2 ^ d.acids.length - 1) <;> cases inb d.hours 1 12 <;> cases decide (((d.adds.length : Nat) : Int) = d.hours) <;> cases decide (((d.strips.length : Nat) : Int) ≤ 6) <;> cases inb d.batches.length 1 5 <;> rfl
end
end
section
open Go Go.RowKit
section
variable {n : Nat} {d : zN}
theorem zHD (hn : 100 ≤ n) (l : List Int) (hl : l.length ≤ 50) (f : Int → Option Bool) (p : Int → Bool) (hf : ∀ x ∈ l, f x = some (p x)) : qX n l f = some (l.any p) := by
 unfold qX zBN
 rw [nA l f p hf (dF f l) (fun k i => by rw [dF]) (by omega) (by omega), Option.bind_some, nB]
theorem zWG (hn : 100 ≤ n) (l : List xO) (hl : l.length ≤ 50) (f : xO → Option Bool) (p : xO → Bool) (hf : ∀ x ∈ l, f x = some (p x)) : vG n l f = some (l.any p) := by
 unfold vG zBM
 rw [nA l f p hf (dE f l) (fun k i => by rw [dE]) (by omega) (by omega), Option.bind_some, nB]
theorem yAG (hn : 100 ≤ n) (l : List xM) (hl : l.length ≤ 50) (f : xM → Option Bool) (p : xM → Bool) (hf : ∀ x ∈ l, f x = some (p x)) : wT n l f = some (l.any p) := by
 unfold wT zBQ
 rw [nA l f p hf (dG f l) (fun k i => by rw [dG]) (by omega) (by omega), Option.bind_some, nB]
theorem zWB (hn : 100 ≤ n) (l : List yI) (hl : l.length ≤ 50) (f : yI → Option Bool) (p : yI → Bool) (hf : ∀ x ∈ l, f x = some (p x)) : vC n l f = some (l.any p) := by
 unfold vC zBL
 rw [nA l f p hf (dD f l) (fun k i => by rw [dD]) (by omega) (by omega), Option.bind_some, nB]
theorem zRG {α : Type} (l : List α) (p : α → Bool) : l.any (fun x => !p x) = !l.all p := by
 induction l with
 | nil => rfl
 | cons x r ih => simp only [List.any_cons, List.all_cons, ih, Bool.not_and]
theorem zWF (a : xO) : vF n a = some (!okA a) := by
 unfold vF okA
 simp only [zWE, Option.bind_some]
 cases spb a.strength 100 <;> cases spb a.fall 20 <;> rfl
theorem zWD (x : Int) : vE n x = some (!inb x 0 100) := by
 unfold vE
 simp only [zDH, Option.bind_some]
theorem zWC (s : xM) : vD n s d = some (!okS d.hours s) := by
 unfold vD okS
 simp only [zDH, Option.bind_some]
 cases inb s.hour 0 (wr (d.hours - 1)) <;> cases inb s.seen 0 2000 <;> cases inb s.off 0 50 <;> rfl
theorem zWA (b : yI) : vB n b = some (!iA b) := by
 unfold vB zBP iA
 simp only [zDH, Option.bind_some]
 cases inb b.rough 0 1000 <;> cases inb b.goal 0 1000 <;> cases inb b.thick 0 1000 <;> cases inb b.least 0 1000 <;> cases inb b.polish 0 100 <;> cases inb b.eat 0 100 <;> rfl
theorem zWS (hn : 100 ≤ n) (hs : eQ d) : rA n d = some (okD d) := by
 have h1 := hs.a
 have h2 := hs.b
 have h7 := hs.c
 have h8 := hs.e
 have h3 : (2 : Int) ^ d.acids.length ≤ 64 := by
  have : (2 : Nat) ^ d.acids.length ≤ 2 ^ 6 := Nat.pow_le_pow_right (by omega) h1
  exact_mod_cast this
 have h4 : (0 : Int) < 2 ^ d.acids.length := by
  have : (0 : Nat) < 2 ^ d.acids.length := Nat.pow_pos (by omega)
  exact_mod_cast this
 have hsh : shl .i64 1 ((List.length d.acids : Nat) : Int) = some (2 ^ d.acids.length) := by
  unfold shl
  rw [show decide ((0 : Int) ≤ ((List.length d.acids : Nat) : Int)) = true from decide_eq_true (by omega), cond_true]
  have hm : min ((List.length d.acids : Nat) : Int).toNat IntKind.i64.bits = d.acids.length := by
   show min d.acids.length 64 = d.acids.length
   omega
  rw [hm, Int.one_mul]
  exact congrArg some (yE (by omega))
 unfold rA
 rw [hsh]
 simp only [zDH, Option.bind_some, zWG hn d.acids (by omega) _ _ (fun x _ => zWF x), zHD hn d.adds (by omega) _ _ (fun x _ => zWD x), yAG hn d.strips (by omega) _ _ (fun x _ => zWC x), zWB hn d.batches (by omega) _ _ (fun x _ => zWA x), zRG]
 rw [yE (by omega)]
 unfold okD okN okL
 cases inb d.acids.length 1 4 <;> cases inb d.known 1 (2 ^ d.acids.length - 1) <;> cases inb d.hours 1 12 <;> cases decide (((d.adds.length : Nat) : Int) = d.hours) <;> cases decide (((d.strips.length : Nat) : Int) ≤ 6) <;> cases inb d.batches.length 1 5 <;>
  cases d.acids.all okA <;> cases d.adds.all (fun x => inb x 0 100) <;> cases d.strips.all (okS d.hours) <;> cases d.batches.all iA <;> rfl
def jZ (set : Int) (i : Nat) : Bool := decide (set / 2 ^ i % 2 = 1)
theorem aG {i : Nat} (h : i ≤ 6) : (1 : Int) ≤ 2 ^ i ∧ (2 : Int) ^ i ≤ 64 := by
 obtain ⟨p, hp, hp1, hp2⟩ : ∃ p : Nat, (2 : Int) ^ i = (p : Int) ∧ 1 ≤ p ∧ p ≤ 2 ^ 6 := ⟨2 ^ i, by push_cast; rfl, Nat.pow_pos (by omega), Nat.pow_le_pow_right (by omega) h⟩
 omega
theorem yAL (hn : 100 ≤ n) {set : Int} {i : Nat} (hi : i ≤ 6) (h0 : 0 ≤ set) (h1 : set ≤ 1000) : zCR n set i = some (jZ set i) := by
 unfold zCR
 have hp := aG hi
 rw [zNX hn (by omega), Option.bind_some]
 generalize hq : (2 : Int) ^ i = p at hp
 have e1 : quo .i64 set p = some (set / p) := by
  unfold quo
  rw [show decide (p = 0) = false from decide_eq_false (by omega), cond_false, Int.tdiv_eq_ediv_of_nonneg h0]
  have h3 : 0 ≤ set / p := Int.ediv_nonneg h0 (by omega)
  have h4 : set / p ≤ set := Int.ediv_le_self _ h0
  exact congrArg some (yE (by omega))
 have h3 : 0 ≤ set / p := Int.ediv_nonneg h0 (by omega)
 rw [e1, Option.bind_some]
 have e2 : rem .i64 (set / p) 2 = some (set / p % 2) := by
  unfold rem
  rw [show decide ((2 : Int) = 0) = false from rfl, cond_false, Int.tmod_eq_emod_of_nonneg h3]
 rw [e2, Option.bind_some, jZ, hq]
theorem zRH : ∀ x : Nat, x < 16 → bits .and .i64 (x : Int) 1 = (x : Int) % 2 := by decide
theorem zWH {set : Int} {i : Nat} (hi : i ≤ 6) (h0 : 0 ≤ set) (h1 : set ≤ 15) : iR n set i = some (jZ set i) := by
 unfold iR
 have hp := aG hi
 have e1 : shr .i64 set (i : Int) = some (set / 2 ^ i) := by
  unfold shr
  rw [show decide ((0 : Int) ≤ (i : Int)) = true from decide_eq_true (by omega), cond_true]
  have hm : min ((i : Nat) : Int).toNat IntKind.i64.bits = i := by
   show min i 64 = i
   omega
  rw [hm, Int.fdiv_eq_ediv_of_nonneg _ (by omega)]
 rw [e1, Option.bind_some, jZ]
 have h3 : 0 ≤ set / 2 ^ i := Int.ediv_nonneg h0 (by omega)
 have h4 : set / 2 ^ i ≤ set := Int.ediv_le_self _ h0
 obtain ⟨x, hx⟩ := Int.eq_ofNat_of_zero_le h3
 rw [hx, zRH x (by omega)]
end
end
section
open Go Go.RowKit
instance (ad : List Int) (st : List xM) (a : xO) (H : Nat) : Decidable (aE ad st a H) := by unfold aE; infer_instance
def zC.small (s : zC) : Prop := (-5000 ≤ s.low ∧ s.low ≤ 5000) ∧ (-5000 ≤ s.high ∧ s.high ≤ 5000)
section
variable {n : Nat} {a : xO} {add : Int} {s : zC}
theorem zNW (ha : a.ok) (h : 0 ≤ add ∧ add ≤ 100) (hs : s.small) : vL n a add s = some (aft a add s) := by
 obtain ⟨h1, h2⟩ := ha
 simp only [zC.ok, zC.small] at h1 h2 hs
 unfold vL aft
 rw [yE (x := s.low - a.fall.high) (by omega), yE (x := s.high - a.fall.low) (by omega), yE (by omega), yE (by omega)]
theorem zWI (ha : a.ok) (h : 0 ≤ add ∧ add ≤ 100) (hs : s.small) : vH n a add s = some (bef a add s) := by
 obtain ⟨h1, h2⟩ := ha
 simp only [zC.ok, zC.small] at h1 h2 hs
 unfold vH lE bef
 rw [yE (x := s.low - add) (by omega), yE (x := s.high - add) (by omega), yE (by omega), yE (by omega)]
 by_cases hc : add < s.low
 ·rw [decide_eq_true hc, cond_true, if_pos hc]
 ·rw [decide_eq_false hc, cond_false, if_neg hc]
theorem zNQ (s t : zC) : pA n s t = some (cap s t) := rfl
end
section
variable {n : Nat} {d : zN} {a : xO}
theorem wB {l : List zC} {s : zC} (h : s.small) (hl : ∀ t ∈ l, t.small) : (kL s l).small := by
 induction l generalizing s with
 | nil => exact h
 | cons t l ih =>
  refine ih (s := cap s t) ?_ (fun u hu => hl u (List.mem_cons_of_mem _ hu))
  have := hl t List.mem_cons_self
  simp only [zC.small, cap] at *
  omega
theorem zFE {s : xM} {H : Int} (h : s.ok H) : s.span.small := by
 obtain ⟨h1, h2, h3⟩ := h
 simp only [xM.span, zC.small]
 omega
theorem pV (hd : d.ok) (h : Nat) : ∀ t ∈ xI d.strips h, t.small := by
 intro t ht
 simp only [xI, List.mem_map, List.mem_filter] at ht
 obtain ⟨s, ⟨hs, _⟩, rfl⟩ := ht
 exact zFE (hd.st s hs)
theorem sA (x : xM) (r : List xM) (h : Nat) : xI (x :: r) h = if x.hour = (h : Int) then x.span :: xI r h else xI r h := by
 unfold xI
 rw [List.filter_cons]
 by_cases hx : x.hour = (h : Int)
 ·simp [hx]
 ·simp [hx]
theorem zED (hd : d.ok) (ha : a.ok) {h : Nat} (hh : h < 12) (hn : h = 0 ∨ (fw d.adds d.strips a (h - 1)).ne) : (fw d.adds d.strips a h).small := by
 have h1 := sL (st := d.strips) ha hd.ad
 have had := fM hd.ad h
 cases h with
 | zero =>
  refine wB ?_ (pV hd 0)
  obtain ⟨h1, h2⟩ := ha
  simp only [start, zC.small, zC.ok] at *
  omega
 | succ h =>
  refine wB ?_ (pV hd (h + 1))
  have h2 := h1 h
  obtain ⟨h3, h4⟩ := ha
  simp only [aft, zC.small, zC.ok, zC.ne, Nat.add_sub_cancel] at *
  omega
def mix (d : zN) (a : xO) (H m : Nat) : List zC := (List.range H).map fun h => if h < m then fw d.adds d.strips a h else bd d.adds d.strips a H h
def bdL (d : zN) (a : xO) (H : Nat) : List zC := (List.range H).map (bd d.adds d.strips a H)
def fwL (d : zN) (a : xO) (m : Nat) : List zC := (List.range m).map (fw d.adds d.strips a)
theorem nY {H m h : Nat} (hh : h < H) : (mix d a H m)[h]? = some (if h < m then fw d.adds d.strips a h else bd d.adds d.strips a H h) := by
 unfold mix
 rw [List.getElem?_map, List.getElem?_range hh]; rfl
theorem zDS {H m : Nat} (hm : m < H) : (mix d a H (m + 1)).set m (bd d.adds d.strips a H m) = mix d a H m := by
 apply List.ext_getElem?
 intro i
 rw [List.getElem?_set]
 by_cases hi : i < H
 ·rw [nY (m := m) hi, nY (m := m + 1) hi]
  by_cases hmi : m = i
  ·subst hmi
   rw [if_pos rfl, if_pos (by unfold mix; simpa using hm), if_neg (by omega)]
  ·rw [if_neg hmi]
   by_cases h1 : i < m
   ·rw [if_pos h1, if_pos (by omega)]
   ·rw [if_neg h1, if_neg (by omega)]
 ·have e : ∀ q, (mix d a H q)[i]? = none := fun q => by unfold mix; simp; omega
  rw [if_neg (by omega), e, e]
theorem zDR {H : Nat} : mix d a H 0 = bdL d a H := by
 unfold mix bdL
 apply List.map_congr_left
 intro h _
 rw [if_neg (by omega)]
theorem zMD {H : Nat} (hH : 0 < H) : mix d a H (H - 1) = fwL d a H := by
 unfold mix fwL
 apply List.map_congr_left
 intro h hh
 rw [List.mem_range] at hh
 by_cases h1 : h < H - 1
 ·rw [if_pos h1]
 ·rw [if_neg h1]
  have : h = H - 1 := by omega
  subst this
  exact zGB hH
theorem zEV (hd : d.ok) (ha : a.ok) {H h : Nat} (hH : H ≤ 12) (hp : aE d.adds d.strips a H) (hh : h < H) : (bd d.adds d.strips a H h).small := by
 have h1 := sL (st := d.strips) ha hd.ad h
 have h2 := zIF ha hd.ad hp hh
 simp only [zC.small, zC.ne] at *
 omega
theorem qJ (hd : d.ok) {h : Nat} (hh : (h : Int) < d.hours) : ix d.adds (h : Int) = some (kU d.adds h) := by
 have := hd.adl
 have hl : h < d.adds.length := by omega
 rw [xS (List.getElem?_eq_getElem hl), kU, List.getD_eq_getElem?_getD, List.getElem?_eq_getElem hl]
 rfl
theorem zLW (hd : d.ok) (ha : a.ok) {H : Nat} (hH : d.hours = (H : Int)) (hp : aE d.adds d.strips a H) : ∀ (m k : Nat), m < k → m ≤ H - 1 → aK n d a k ((m : Int) - 1) (mix d a H m) = some (bdL d a H, true) := by
 have hhr := hd.hr
 intro m
 induction m with
 | zero =>
  intro k hk hm
  obtain ⟨k, rfl⟩ : ∃ k', k = k' + 1 := ⟨k - 1, by omega⟩
  rw [aK, decide_eq_false (by omega), cond_false, zDR]
 | succ m ih =>
  intro k hk hm
  obtain ⟨k, rfl⟩ : ∃ k', k = k' + 1 := ⟨k - 1, by omega⟩
  have e0 : (((m + 1 : Nat) : Int) - 1) = (m : Int) := by omega
  have e1 : wr ((m : Int) + 1) = ((m + 1 : Nat) : Int) := by rw [yE (by omega)]; push_cast; rfl
  have g1 := xS (nY (d := d) (a := a) (H := H) (m := m + 1) (h := m) (by omega))
  have g2 := xS (nY (d := d) (a := a) (H := H) (m := m + 1) (h := m + 1) (by omega))
  rw [if_pos (by omega)] at g1
  rw [if_neg (by omega)] at g2
  rw [aK, e0, decide_eq_true (by omega), cond_true, e1, g1, qJ hd (h := m + 1) (by omega), g2]
  simp only [Option.bind_some, zWI ha (fM hd.ad (m + 1)) (zEV hd ha (by omega) hp (show m + 1 < H by omega)), zNQ]
  rw [← zAJ (ad := d.adds) (st := d.strips) (a := a) (show m + 1 < H by omega), yE (by omega)]
  have hset : sts (mix d a H (m + 1)) (m : Int) (bd d.adds d.strips a H m) = mix d a H m := zDS (by omega)
  rw [hset]
  exact ih k (by omega) (by omega)
theorem zQE (hd : d.ok) (hn : 100 ≤ n) (K1 : Int → List zC → Option (List zC × Bool)) (h : Nat) (hh : (h : Int) < 1000) (acc : List zC) (hacc : acc.length ≤ 1000) (s : zC) :
  cH n K1 d (h : Int) acc n 0 s = bif decide ((kL s (xI d.strips h)).ne) then K1 ((h : Int) + 1) (acc ++ [kL s (xI d.strips h)]) else some ([], false) := by
 have hst := hd.stl
 have h1 := bO d.strips (cH n K1 d (h : Int) acc) (fun _ x s K => bif decide (x.hour = (h : Int)) then K (cap s x.span) else K s)
  (fun s => bif decide (s.high < s.low) then some ([], false) else (app acc [s]).bind fun v => K1 (wr ((h : Int) + 1)) v) (fun k i s => by
   rw [cH]
   by_cases hi : i < d.strips.length
   ·have hok := hd.st _ (List.getElem_mem hi)
    simp only [xS (List.getElem?_eq_getElem hi), Option.bind_some, zNQ]
    obtain ⟨q1, q2, q3⟩ := hok
    rw [yE (x := d.strips[i].seen - d.strips[i].off) (by omega), yE (x := d.strips[i].seen + d.strips[i].off) (by omega)]
    rfl
   ·have e1 : decide ((i : Int) < ((d.strips.length : Nat) : Int)) = false := decide_eq_false (by omega)
    rw [e1, cond_false, cond_false]) (by omega) n 0 s (by omega) (by omega)
 rw [List.drop_zero] at h1
 have h2 : ∀ (fin : zC → Option (List zC × Bool)) (l : List xM) (i : Nat) (s : zC), fc (fun _ x s K => bif decide (x.hour = (h : Int)) then K (cap s x.span) else K s) fin i l s = fin (kL s (xI l h)) := by
  intro fin l
  induction l with
  | nil => intro i s; rfl
  | cons x r ih =>
   intro i s
   rw [sA, fc]
   by_cases hx : x.hour = (h : Int)
   ·rw [decide_eq_true hx, cond_true, if_pos hx, ih]; rfl
   ·rw [decide_eq_false hx, cond_false, if_neg hx, ih]
 rw [show ((0 : Nat) : Int) = 0 from rfl] at h1
 rw [h1, h2]
 generalize kL s (xI d.strips h) = t
 by_cases ht : t.ne
 ·have e : decide (t.high < t.low) = false := decide_eq_false (by unfold zC.ne at ht; omega)
  have ea : app acc [t] = some (acc ++ [t]) := by
   unfold app
   rw [decide_eq_true (show acc.length + [t].length ≤ 1000000 by simp; omega)]
   rfl
  rw [e, cond_false, decide_eq_true ht, cond_true, ea, Option.bind_some, yE (by omega)]
 ·have e : decide (t.high < t.low) = true := decide_eq_true (by unfold zC.ne at ht; omega)
  rw [e, cond_true, decide_eq_false ht, cond_false]
theorem zMO (m : Nat) : fwL d a (m + 1) = fwL d a m ++ [fw d.adds d.strips a m] := by
 unfold fwL
 rw [List.range_succ, List.map_append]
 rfl
theorem zHR (m : Nat) : (fwL d a m).length = m := by simp [fwL]
theorem zQF (hd : d.ok) (hn : 100 ≤ n) (ha : a.ok) {H : Nat} (hH : d.hours = (H : Int)) : ∀ (r m k : Nat), m + r = H → r < k → (∀ h, h < m → (fw d.adds d.strips a h).ne) →
  gM n d a k (m : Int) (fwL d a m) = if aE d.adds d.strips a H then some (bdL d a H, true) else some ([], false) := by
 have hhr := hd.hr
 have hadl := hd.adl
 intro r
 induction r with
 | zero =>
  intro m k hm hk hne
  obtain ⟨k, rfl⟩ : ∃ k', k = k' + 1 := ⟨k - 1, by omega⟩
  have hm' : m = H := by omega
  subst hm'
  rw [gM, decide_eq_false (by omega), cond_false, if_pos (show aE d.adds d.strips a m from hne), hH, yE (by omega), ← zMD (by omega)]
  have := zLW (n := n) hd ha hH hne (m - 1) n (by omega) (by omega)
  rw [show (((m - 1 : Nat) : Int) - 1) = (m : Int) - 2 by omega] at this
  exact this
 | succ r ih =>
  intro m k hm hk hne
  obtain ⟨k, rfl⟩ : ∃ k', k = k' + 1 := ⟨k - 1, by omega⟩
  have ea0 : ix d.adds 0 = some (kU d.adds 0) := qJ hd (h := 0) (by omega)
  have key : ∀ s, kL s (xI d.strips m) = fw d.adds d.strips a m → lA n (gM n d a k) d (m : Int) (fwL d a m) s = if aE d.adds d.strips a H then some (bdL d a H, true) else some ([], false) := by
   intro s hs
   unfold lA
   rw [zQE hd hn _ m (by omega) _ (by rw [zHR]; omega), hs]
   by_cases hf : (fw d.adds d.strips a m).ne
   ·rw [decide_eq_true hf, cond_true, ← zMO]
    have := ih (m + 1) k (by omega) (by omega) (fun h hh => by
     by_cases h1 : h < m
     ·exact hne h h1
     ·have : h = m := by omega
      subst this; exact hf)
    push_cast at this
    exact this
   ·rw [decide_eq_false hf, cond_false, if_neg (fun hp => hf (hp m (by omega)))]
  rw [gM, decide_eq_true (by omega), cond_true, ea0]
  simp only [Option.bind_some]
  have had := fM hd.ad 0
  cases m with
  | zero =>
   rw [decide_eq_false (by omega), cond_false]
   obtain ⟨q1, q2⟩ := ha
   simp only [zC.ok] at q1 q2
   rw [yE (by omega), yE (by omega)]
   exact key _ rfl
  | succ m =>
   rw [decide_eq_true (by omega), cond_true, qJ hd (h := m + 1) (by omega)]
   have e1 : wr (((m + 1 : Nat) : Int) - 1) = (m : Int) := by rw [yE (by omega)]; omega
   have g1 : ix (fwL d a (m + 1)) (m : Int) = some (fw d.adds d.strips a m) := xS (by unfold fwL; rw [List.getElem?_map, List.getElem?_range (by omega)]; rfl)
   rw [e1, g1]
   simp only [Option.bind_some, zNW ha (fM hd.ad (m + 1)) (zED hd ha (show m < 12 by omega) (by
    rcases Nat.eq_zero_or_pos m with h | h
    ·exact .inl h
    ·exact .inr (hne (m - 1) (by omega))))]
   exact key _ rfl
theorem yAH (hd : d.ok) (hn : 100 ≤ n) {i : Nat} (hi : d.acids[i]? = some a) : qQ n d (i : Int) = if jZ d.known i = true ∧ aE d.adds d.strips a d.hours.toNat then some (bdL d a d.hours.toNat, true) else some ([], false) := by
 have hhr := hd.hr
 have hacl := hd.acl
 have hkn := hd.kn
 have hil : i < d.acids.length := (List.getElem?_eq_some_iff.1 hi).1
 have hpw := (aG (i := d.acids.length) (by omega)).2
 unfold qQ
 rw [xS hi, Option.bind_some, yAL hn (by omega) (by omega) (by omega), Option.bind_some]
 cases hb : jZ d.known i with
 | false => simp
 | true =>
  have := zQF (n := n) hd hn (hd.ac a (List.mem_of_getElem? hi)) (H := d.hours.toNat) (by omega) d.hours.toNat 0 n (by omega) (by omega) (fun h hh => by omega)
  simp only [Bool.not_true, cond_false, true_and]
  exact this
end
end
section
def zFB (w : List zC) : Prop := ∃ x : Int, 0 ≤ x ∧ x ≤ 12 ∧ ∀ s ∈ w, s.mem x
def eT (w : List zC) : zC := kL ⟨0, 12⟩ w
theorem uE {w : List zC} : zFB w ↔ (eT w).ne := by
 constructor
 ·rintro ⟨x, h1, h2, h3⟩
  have := (oO (s := ⟨0, 12⟩) (l := w) (x := x)).2 ⟨⟨h1, h2⟩, h3⟩
  simp only [zC.mem, zC.ne, eT] at *
  omega
 ·intro h
  have h1 := (oO (s := ⟨0, 12⟩) (l := w) (x := (eT w).low)).1 (zDQ h).1
  exact ⟨_, h1.1.1, h1.1.2, h1.2⟩
instance (w : List zC) : Decidable (zFB w) := decidable_of_iff _ uE.symm
theorem zFB.sub {w w' : List zC} (h : zFB w) (hs : ∀ s ∈ w', s ∈ w) : zFB w' := by
 obtain ⟨x, h1, h2, h3⟩ := h
 exact ⟨x, h1, h2, fun s hw => h3 s (hs s hw)⟩
theorem zMX (s a b : zC) : cap (cap s a) b = cap (cap s b) a := by
 simp only [cap, zC.mk.injEq]
 omega
end
section
open Go Go.RowKit
def Err {α : Type} (o : Option (Except Value α)) : Prop := ∃ v, qC v = true ∧ o = some (.error v)
theorem zBU (n : Nat) (h : Int) {x y : zC} (hc : (cap x y).ne) : cY n h x y = some (.ok (cap x y)) := by
 unfold cY
 have e : decide ((min x.high y.high) < (max x.low y.low)) = false := decide_eq_false (by simp only [zC.ne, cap] at hc; omega)
 rw [e]; rfl
theorem zDJ (n : Nat) (h : Int) {x y : zC} (hc : ¬ (cap x y).ne) : cY n h x y = some (.error (.iface 175 (.agg #[.int .i64 h]))) := by
 unfold cY
 have e : decide ((min x.high y.high) < (max x.low y.low)) = true := decide_eq_true (by simp only [zC.ne, cap] at hc; omega)
 rw [e]; rfl
theorem zMY (l : List zC) : ∀ (s t : zC), kL (cap s t) l = cap (kL s l) t := by
 induction l with
 | nil => intro s t; rfl
 | cons u r ih =>
  intro s t
  show kL (cap (cap s t) u) r = cap (kL (cap s u) r) t
  rw [zMX, ih]
def fP : zC := ⟨0, 1300⟩
theorem zMW {s : zC} (h : 0 ≤ s.low ∧ s.high ≤ 1300) : cap fP s = s := by
 obtain ⟨h1, h2⟩ := h
 ext
 ·simp only [cap, fP]; omega
 ·simp only [cap, fP]; omega
theorem pK {l : List zC} {s : zC} (h : 0 ≤ s.low ∧ s.high ≤ 1300) : cap (kL fP l) s = kL s l := by
 rw [← zMY, zMW h]
theorem zAD {x y : zC} (h : (cap x y).ne) : x.ne := by simp only [zC.ne, cap] at *; omega
theorem zRD {l : List zC} : ∀ {s : zC}, (kL s l).ne → s.ne := by
 induction l with
 | nil => intro s h; exact h
 | cons t r ih => intro s h; exact zAD (ih (s := cap s t) h)
section
variable {n : Nat} {d : zN} {a : xO} {H : Nat}
def lst (H : Nat) (c : Nat → zC) : List zC := (List.range H).map c
theorem iK {c : Nat → zC} {h : Nat} (hh : h < H) : (lst H c)[h]? = some (c h) := by
 unfold lst; rw [List.getElem?_map, List.getElem?_range hh]; rfl
theorem zAE {c : Nat → zC} {m : Nat} {s : zC} : (lst H c).set m s = lst H (fun h => if h = m then s else c h) := by
 apply List.ext_getElem?
 intro i
 rw [List.getElem?_set]
 by_cases hi : i < H
 ·rw [iK hi, iK hi]
  by_cases hm : m = i
  ·subst hm
   rw [if_pos rfl, if_pos (by unfold lst; simpa using hi), if_pos rfl]
  ·rw [if_neg hm, if_neg (fun e => hm e.symm)]
 ·have e : ∀ c : Nat → zC, (lst H c)[i]? = none := fun c => by unfold lst; simp; omega
  rw [e, e]
  split
  ·rw [if_neg (by unfold lst; simp; omega)]
  ·rfl
theorem zAT {c c' : Nat → zC} (h : ∀ i, i < H → c i = c' i) : lst H c = lst H c' := by
 unfold lst
 exact List.map_congr_left (fun i hi => h i (by simpa using hi))
theorem zDK (hd : d.ok) (hn : 100 ≤ n) (hH : d.hours = (H : Int)) (i : Int) (fin : List zC → Option (Except Value yM)) (hfin : ∀ s, (ix s 0).bind (fun v120 => (ix d.adds 0).bind fun v121 => (ix d.adds 0).bind fun v122 =>
   (cY n 0 v120 (zC.mk (wr (a.strength.low + v121)) (wr (a.strength.high + v122)))).bind fun v123 => Except.casesOn (motive := fun _ => Option (Except Value (yM))) v123 (fun p => some (.error p)) (fun v124 => (ix s 0).bind fun v125 => fX n d i a n 1 (sts s 0 v124))) = fin s) :
  ((∀ h, h < H → (kL fP (xI d.strips h)).ne) → bW n d i a n 0 (lst H (fun _ => fP)) = fin (lst H (fun h => kL fP (xI d.strips h)))) ∧
  (¬ (∀ h, h < H → (kL fP (xI d.strips h)).ne) → Err (bW n d i a n 0 (lst H (fun _ => fP)))) := by
 have hst := hd.stl
 have h1 := bO d.strips (bW n d i a) (fun _ x s K => (ix s x.hour).bind fun v => (cY n x.hour v x.span).bind fun r => Except.casesOn (motive := fun _ => Option (Except Value (yM))) r (fun p => some (.error p)) (fun v' => (ix s x.hour).bind fun _ => K (sts s x.hour v')))
  fin (fun k j s => by
   rw [bW, hfin]
   by_cases hj : j < d.strips.length
   ·have hok := hd.st _ (List.getElem_mem hj)
    simp only [xS (List.getElem?_eq_getElem hj), Option.bind_some]
    obtain ⟨q1, q2, q3⟩ := hok
    rw [yE (x := d.strips[j].seen - d.strips[j].off) (by omega), yE (x := d.strips[j].seen + d.strips[j].off) (by omega)]
    rfl
   ·have e1 : decide ((j : Int) < ((d.strips.length : Nat) : Int)) = false := decide_eq_false (by omega)
    rw [e1, cond_false, cond_false]) (by omega) n 0 (lst H (fun _ => fP)) (by omega) (by omega)
 rw [List.drop_zero, show ((0 : Nat) : Int) = 0 from rfl] at h1
 rw [h1]
 clear h1
 have key : ∀ (l : List xM) (j : Nat) (c : Nat → zC), (∀ s ∈ l, s.ok d.hours) → (∀ h, h < H → (c h).ne) →
   ((∀ h, h < H → (kL (c h) (xI l h)).ne) → fc (fun _ x s K => (ix s x.hour).bind fun v => (cY n x.hour v x.span).bind fun r => Except.casesOn (motive := fun _ => Option (Except Value (yM))) r (fun p => some (.error p)) (fun v' => (ix s x.hour).bind fun _ => K (sts s x.hour v'))) fin j l (lst H c) = fin (lst H (fun h => kL (c h) (xI l h)))) ∧
   (¬ (∀ h, h < H → (kL (c h) (xI l h)).ne) → Err (fc (fun _ x s K => (ix s x.hour).bind fun v => (cY n x.hour v x.span).bind fun r => Except.casesOn (motive := fun _ => Option (Except Value (yM))) r (fun p => some (.error p)) (fun v' => (ix s x.hour).bind fun _ => K (sts s x.hour v'))) fin j l (lst H c))) := by
  intro l
  induction l with
  | nil =>
   intro j c _ hc
   exact ⟨fun _ => rfl, fun h => absurd hc h⟩
  | cons x r ih =>
   intro j c hok hc
   obtain ⟨⟨q1, q2⟩, _⟩ := hok x List.mem_cons_self
   obtain ⟨m, hm⟩ := Int.eq_ofNat_of_zero_le q1
   have hmH : m < H := by omega
   simp only [fc]
   rw [hm, xS (iK hmH)]
   simp only [Option.bind_some]
   have hcap : ∀ h, kL (c h) (xI (x :: r) h) = kL (if h = m then cap (c m) x.span else c h) (xI r h) := by
    intro h
    rw [sA, hm]
    by_cases hh : h = m
    ·subst hh
     rw [if_pos rfl, if_pos rfl]; rfl
    ·rw [if_neg (by omega), if_neg hh]
   by_cases hx : (cap (c m) x.span).ne
   ·rw [zBU n m hx]
    simp only [Option.bind_some]
    have hset : sts (lst H c) (m : Int) (cap (c m) x.span) = lst H (fun h => if h = m then cap (c m) x.span else c h) := zAE
    rw [hset]
    have := ih (j + 1) (fun h => if h = m then cap (c m) x.span else c h) (fun s hs => hok s (List.mem_cons_of_mem _ hs)) (fun h hh => by
     by_cases e : h = m
     ·simp only [e, if_true]; exact hx
     ·simp only [e, if_false]; exact hc h hh)
    simp only [hcap]
    exact this
   ·rw [zDJ n m hx]
    constructor
    ·intro hall
     refine absurd ?_ hx
     have := hall m hmH
     rw [hcap, if_pos rfl] at this
     exact zRD this
    ·intro _
     exact ⟨_, rfl, rfl⟩
 exact key d.strips 0 (fun _ => fP) hd.st (fun h _ => by simp [zC.ne, fP])
def lQ (d : zN) (a : xO) (m : Nat) : Nat → zC := fun h => if h < m then fw d.adds d.strips a h else kL fP (xI d.strips h)
theorem zFA (hd : d.ok) (ha : a.ok) {h : Nat} (hh : h + 1 < 12) : 0 ≤ (aft a (kU d.adds (h + 1)) (fw d.adds d.strips a h)).low ∧ (aft a (kU d.adds (h + 1)) (fw d.adds d.strips a h)).high ≤ 1300 := by
 have h1 := sL (st := d.strips) ha hd.ad h
 have h2 := fM hd.ad (h + 1)
 obtain ⟨h3, h4⟩ := ha
 simp only [aft, zC.ok] at *
 omega
theorem zMB (hd : d.ok) (ha : a.ok) (hH : d.hours = (H : Int)) (hp : aE d.adds d.strips a H) (i : Int) : ∀ (m k : Nat), m < k → m ≤ H - 1 → gP n d i a k (m : Int) (mix d a H m) = some (.ok ⟨d, i, bdL d a H⟩) := by
 have hhr := hd.hr
 intro m
 induction m with
 | zero =>
  intro k hk hm
  obtain ⟨k, rfl⟩ : ∃ k', k = k' + 1 := ⟨k - 1, by omega⟩
  rw [gP, decide_eq_false (by omega), cond_false, zDR]
 | succ m ih =>
  intro k hk hm
  obtain ⟨k, rfl⟩ : ∃ k', k = k' + 1 := ⟨k - 1, by omega⟩
  have g1 := xS (nY (d := d) (a := a) (H := H) (m := m + 1) (h := m) (by omega))
  have g2 := xS (nY (d := d) (a := a) (H := H) (m := m + 1) (h := m + 1) (by omega))
  rw [if_pos (by omega)] at g1
  rw [if_neg (by omega)] at g2
  have e1 : wr (((m + 1 : Nat) : Int) - 1) = (m : Int) := by rw [yE (by omega)]; omega
  have hb := zEV hd ha (by omega) hp (show m + 1 < H by omega)
  have hadd := fM hd.ad (m + 1)
  have hok := (zIF ha hd.ad hp (show m < H by omega)).1
  rw [zAJ (ad := d.adds) (st := d.strips) (a := a) (show m + 1 < H by omega)] at hok
  have hset : sts (mix d a H (m + 1)) (m : Int) (bd d.adds d.strips a H m) = mix d a H m := zDS (by omega)
  have key : ∀ low, low = (bef a (kU d.adds (m + 1)) (bd d.adds d.strips a H (m + 1))).low → hU n (gP n d i a k) a ((m + 1 : Nat) : Int) (mix d a H (m + 1)) (bd d.adds d.strips a H (m + 1)) (kU d.adds (m + 1)) low = some (.ok ⟨d, i, bdL d a H⟩) := by
   intro low hl
   have hhi : wr (wr ((bd d.adds d.strips a H (m + 1)).high - kU d.adds (m + 1)) + a.fall.high) = (bef a (kU d.adds (m + 1)) (bd d.adds d.strips a H (m + 1))).high := by
    obtain ⟨h3, h4⟩ := ha
    simp only [zC.small, zC.ok] at hb h3 h4
    rw [yE (x := _ - _) (by omega), yE (by omega)]
    rfl
   unfold hU
   rw [hhi, hl, e1, g1]
   simp only [Option.bind_some]
   rw [zBU n m hok]
   simp only [Option.bind_some]
   rw [← zAJ (ad := d.adds) (st := d.strips) (a := a) (show m + 1 < H by omega), hset]
   exact ih k (by omega) (by omega)
  rw [gP, decide_eq_true (by omega), cond_true, g2, Option.bind_some, qJ hd (h := m + 1) (by omega), Option.bind_some]
  obtain ⟨h3, h4⟩ := ha
  simp only [zC.small, zC.ok] at hb h3 h4
  by_cases hc : kU d.adds (m + 1) < (bd d.adds d.strips a H (m + 1)).low
  ·rw [decide_eq_true hc, cond_true]
   refine key _ ?_
   rw [yE (x := _ - _) (by omega), yE (by omega)]
   simp only [bef]
   rw [if_pos hc]
  ·rw [decide_eq_false hc, cond_false]
   refine key _ ?_
   simp only [bef]
   rw [if_neg hc]
theorem zMC (hd : d.ok) (hn : 100 ≤ n) (ha : a.ok) (hH : d.hours = (H : Int)) (i : Int) : ∀ (r m k : Nat), m + 1 + r = H → r < k → (∀ h, h < m + 1 → (fw d.adds d.strips a h).ne) →
  (aE d.adds d.strips a H → fX n d i a k ((m + 1 : Nat) : Int) (lst H (lQ d a (m + 1))) = some (.ok ⟨d, i, bdL d a H⟩)) ∧ (¬ aE d.adds d.strips a H → Err (fX n d i a k ((m + 1 : Nat) : Int) (lst H (lQ d a (m + 1))))) := by
 have hhr := hd.hr
 intro r
 induction r with
 | zero =>
  intro m k hm hk hne
  obtain ⟨k, rfl⟩ : ∃ k', k = k' + 1 := ⟨k - 1, by omega⟩
  have hm' : H = m + 1 := by omega
  subst hm'
  refine ⟨fun hp => ?_, fun hp => absurd hne hp⟩
  rw [fX, decide_eq_false (by omega), cond_false, hH]
  have := zMB (n := n) hd ha hH hp i m n (by omega) (by omega)
  have e1 : wr (((m + 1 : Nat) : Int) - 1) = (m : Int) := by rw [yE (by omega)]; omega
  rw [e1]
  have e2 : lst (m + 1) (lQ d a (m + 1)) = mix d a (m + 1) m := by
   unfold mix lst
   apply List.map_congr_left
   intro h hh
   rw [List.mem_range] at hh
   unfold lQ
   rw [if_pos hh]
   by_cases h1 : h < m
   ·rw [if_pos h1]
   ·have : h = m := by omega
    subst this
    rw [if_neg h1]
    exact (zGB (ad := d.adds) (st := d.strips) (a := a) (H := h + 1) (by omega)).symm
  rw [e2]
  exact this
 | succ r ih =>
  intro m k hm hk hne
  obtain ⟨k, rfl⟩ : ∃ k', k = k' + 1 := ⟨k - 1, by omega⟩
  have g0 : ix (lst H (lQ d a (m + 1))) (m : Int) = some (fw d.adds d.strips a m) := by
   rw [xS (iK (by omega))]; unfold lQ; rw [if_pos (by omega)]
  have g1 : ix (lst H (lQ d a (m + 1))) ((m + 1 : Nat) : Int) = some (kL fP (xI d.strips (m + 1))) := by
   rw [xS (iK (by omega))]; unfold lQ; rw [if_neg (by omega)]
  have e1 : wr (((m + 1 : Nat) : Int) - 1) = (m : Int) := by rw [yE (by omega)]; omega
  have hsm := zED hd ha (show m < 12 by omega) (by
    rcases Nat.eq_zero_or_pos m with h | h
    ·exact .inl h
    ·exact .inr (hne (m - 1) (by omega)))
  have hadd := fM hd.ad (m + 1)
  have haft : zC.mk (wr ((max 0 (wr ((fw d.adds d.strips a m).low - a.fall.high))) + kU d.adds (m + 1))) (wr ((max 0 (wr ((fw d.adds d.strips a m).high - a.fall.low))) + kU d.adds (m + 1))) = aft a (kU d.adds (m + 1)) (fw d.adds d.strips a m) :=
   Option.some.inj (zNW (n := n) ha hadd hsm)
  have hfw : cap (kL fP (xI d.strips (m + 1))) (aft a (kU d.adds (m + 1)) (fw d.adds d.strips a m)) = fw d.adds d.strips a (m + 1) := pK (zFA hd ha (by omega))
  rw [fX, decide_eq_true (by omega), cond_true, e1, g0, Option.bind_some, qJ hd (h := m + 1) (by omega), Option.bind_some, g1, Option.bind_some, haft]
  by_cases hf : (fw d.adds d.strips a (m + 1)).ne
  ·rw [zBU n _ (by rw [hfw]; exact hf), hfw]
   simp only [Option.bind_some]
   have hset : sts (lst H (lQ d a (m + 1))) ((m + 1 : Nat) : Int) (fw d.adds d.strips a (m + 1)) = lst H (lQ d a (m + 1 + 1)) := by
    refine (zAE (m := m + 1)).trans (zAT (fun h _ => ?_))
    unfold lQ
    by_cases e : h = m + 1
    ·subst e; rw [if_pos rfl, if_pos (by omega)]
    ·rw [if_neg e]
     by_cases h1 : h < m + 1
     ·rw [if_pos h1, if_pos (by omega)]
     ·rw [if_neg h1, if_neg (by omega)]
   rw [hset, yE (by omega)]
   have := ih (m + 1) k (by omega) (by omega) (fun h hh => by
    by_cases e : h = m + 1
    ·subst e; exact hf
    ·exact hne h (by omega))
   exact_mod_cast this
  ·rw [zDJ n _ (by rw [hfw]; exact hf)]
   exact ⟨fun hp => absurd (hp (m + 1) (by omega)) hf, fun _ => ⟨_, rfl, rfl⟩⟩
theorem zVX (hd : d.ok) (hn : 100 ≤ n) {i : Nat} (hi : d.acids[i]? = some a) :
  (aE d.adds d.strips a d.hours.toNat → lX n d i = some (.ok ⟨d, i, bdL d a d.hours.toNat⟩)) ∧ (¬ aE d.adds d.strips a d.hours.toNat → Err (lX n d i)) := by
 have hhr := hd.hr
 have ha := hd.ac a (List.mem_of_getElem? hi)
 obtain ⟨H, hH⟩ := Int.eq_ofNat_of_zero_le (show 0 ≤ d.hours by omega)
 have hH' : d.hours.toNat = H := by omega
 rw [hH']
 unfold lX
 rw [xS hi, Option.bind_some]
 have e187 : uX n [zC.mk 0 1300] d.hours = some (lst H (fun _ => fP)) := by
  unfold uX
  rw [decide_eq_true hhr.1, decide_eq_true hhr.2]
  simp only [Bool.and_self, cond_true, hH']
  refine congrArg some ?_
  unfold lst fP
  apply List.ext_getElem?
  intro j
  simp [List.getElem?_replicate, List.getElem?_range]
  by_cases hj : j < H <;> simp [hj]
 rw [e187, Option.bind_some]
 obtain ⟨k1, k2⟩ := zDK (n := n) (a := a) hd hn hH i _ (fun s => rfl)
 have hst0 : 0 ≤ (start a (kU d.adds 0)).low ∧ (start a (kU d.adds 0)).high ≤ 1300 := by
  have := fM hd.ad 0
  obtain ⟨h3, h4⟩ := ha
  simp only [start, zC.ok] at *
  omega
 have hsub : ∀ h, h < H → (fw d.adds d.strips a h).ne → (kL fP (xI d.strips h)).ne := by
  intro h hh hf
  cases h with
  | zero => exact zAD (y := start a (kU d.adds 0)) (by rw [pK hst0]; exact hf)
  | succ h => exact zAD (y := aft a (kU d.adds (h + 1)) (fw d.adds d.strips a h)) (by rw [pK (zFA hd ha (by omega))]; exact hf)
 by_cases hall : ∀ h, h < H → (kL fP (xI d.strips h)).ne
 ·rw [k1 hall]
  have g0 : ix (lst H (fun h => kL fP (xI d.strips h))) 0 = some (kL fP (xI d.strips 0)) := xS (iK (c := fun h => kL fP (xI d.strips h)) (h := 0) (by omega))
  have ga : ix d.adds 0 = some (kU d.adds 0) := qJ hd (h := 0) (by omega)
  have hs0 : zC.mk (wr (a.strength.low + kU d.adds 0)) (wr (a.strength.high + kU d.adds 0)) = start a (kU d.adds 0) := by
   have := fM hd.ad 0
   obtain ⟨h3, h4⟩ := ha
   simp only [zC.ok] at h3 h4
   rw [yE (by omega), yE (by omega)]; rfl
  have hfw : cap (kL fP (xI d.strips 0)) (start a (kU d.adds 0)) = fw d.adds d.strips a 0 := pK hst0
  simp only [g0, ga, Option.bind_some, hs0]
  by_cases hf : (fw d.adds d.strips a 0).ne
  ·rw [zBU n _ (by rw [hfw]; exact hf), hfw]
   simp only [Option.bind_some]
   have hset : sts (lst H (fun h => kL fP (xI d.strips h))) 0 (fw d.adds d.strips a 0) = lst H (lQ d a (0 + 1)) := by
    refine (zAE (m := 0)).trans (zAT (fun h _ => ?_))
    unfold lQ
    by_cases e : h = 0
    ·subst e; rw [if_pos rfl, if_pos (by omega)]
    ·rw [if_neg e, if_neg (by omega)]
   rw [hset]
   exact zMC (n := n) hd hn ha hH i (H - 1) 0 n (by omega) (by omega) (fun h hh => by
    have : h = 0 := by omega
    subst this; exact hf)
  ·rw [zDJ n _ (by rw [hfw]; exact hf)]
   exact ⟨fun hp => absurd (hp 0 (by omega)) hf, fun _ => ⟨_, rfl, rfl⟩⟩
 ·exact ⟨fun hp => absurd (fun h hh => hsub h hh (hp h hh)) hall, fun _ => k2 hall⟩
end
end
section
open Go Go.RowKit
def eX (d : zN) (i : Nat) : xO := d.acids.getD i default
def hrs (d : zN) : Nat := d.hours.toNat
def cD (d : zN) (i : Nat) : Bool := jZ d.known i && decide (aE d.adds d.strips (eX d i) (hrs d))
def bdI (d : zN) (i : Nat) : List zC := bdL d (eX d i) (hrs d)
def idx (d : zN) : List Nat := (List.range d.acids.length).filter (cD d)
section
variable {n : Nat} {d : zN}
theorem rX {i : Nat} (hi : i < d.acids.length) : d.acids[i]? = some (eX d i) := by
 unfold eX
 rw [List.getD_eq_getElem?_getD, List.getElem?_eq_getElem hi]; rfl
theorem zBH (hd : d.ok) {i : Nat} (hi : i < d.acids.length) : (eX d i).ok := hd.ac _ (List.mem_of_getElem? (rX hi))
theorem vY (hd : d.ok) : d.hours = (hrs d : Int) := by have := hd.hr; unfold hrs; omega
theorem dL (hd : d.ok) : 1 ≤ hrs d ∧ hrs d ≤ 12 := by have := hd.hr; unfold hrs; omega
theorem zSB (hd : d.ok) (hn : 100 ≤ n) {i : Nat} (hi : i < d.acids.length) : qQ n d (i : Int) = some (bif cD d i then (bdI d i, true) else ([], false)) := by
 rw [yAH hd hn (rX hi)]
 unfold cD bdI hrs
 by_cases h1 : jZ d.known i = true <;> by_cases h2 : aE d.adds d.strips (eX d i) d.hours.toNat <;> simp [h1, h2]
theorem zVV (hd : d.ok) (hn : 100 ≤ n) {i : Nat} (hi : i < d.acids.length) : (aE d.adds d.strips (eX d i) (hrs d) → lX n d i = some (.ok ⟨d, i, bdI d i⟩)) ∧ (¬ aE d.adds d.strips (eX d i) (hrs d) → Err (lX n d i)) :=
 zVX hd hn (rX hi)
theorem bA {α : Type} {l l2 : List α} (h : l.length + l2.length ≤ 1000000) : app l l2 = some (l ++ l2) := by
 unfold app; rw [decide_eq_true h]; rfl
def iT (l : List Nat) : List Int := l.map fun (j : Nat) => (j : Int)
theorem zSG (hd : d.ok) (hn : 100 ≤ n) : wV n d = some (iT (idx d)) := by
 have hl := hd.acl
 have h1 := zDT ((d.acids.length : Nat) : Int) (dX n d) (fun i s K => (qQ n d i).bind fun v => bif v.2 then (app s [i]).bind fun s' => K s' else K s) (fun s => some s) (fun k i s => by rw [dX]) (by omega) d.acids.length n 0 [] (by omega) (by omega) (by omega)
 unfold wV
 rw [h1]
 have key : ∀ (r i : Nat) (s : List Int), i + r = d.acids.length → s.length ≤ i → fn ((d.acids.length : Nat) : Int) (fun i s K => (qQ n d i).bind fun v => bif v.2 then (app s [i]).bind fun s' => K s' else K s) (fun s => some s) r (i : Int) s = some (s ++ iT ((List.range' i r).filter (cD d))) := by
  intro r
  induction r with
  | zero => intro i s _ _; simp [fn, iT]
  | succ r ih =>
   intro i s hi hs
   have hc : ((i : Int) + 1) = ((i + 1 : Nat) : Int) := by push_cast; rfl
   simp only [fn]
   rw [zSB hd hn (by omega), Option.bind_some, List.range'_succ, List.filter_cons, hc]
   cases hp : cD d i with
   | false => simp only [cond_false]; rw [ih (i + 1) s (by omega) (by omega)]; rfl
   | true =>
    simp only [cond_true]
    rw [bA (by simp; omega), Option.bind_some, ih (i + 1) _ (by omega) (by simp; omega)]
    simp [iT]
 have := key d.acids.length 0 [] (by omega) (by simp)
 rw [← List.range_eq_range'] at this
 exact this
theorem yAI (hd : d.ok) (hn : 100 ≤ n) : zCQ n d = some (!(idx d).isEmpty) := by
 unfold zCQ
 rw [zSG hd hn, Option.bind_some]
 cases h : idx d with
 | nil => rfl
 | cons x r => simp [iT]
def err (d : zN) (fine : Bool) : Int := bif !okD d || !fine then 2 else bif (idx d).isEmpty then 7 else 0
theorem zSK (hn : 100 ≤ n) (hs : eQ d) (fine : Bool) : wZ n d fine = some (err d fine) := by
 unfold wZ err nT
 rw [yAT hn hs, Option.bind_some]
 cases hok : okD d with
 | false => rfl
 | true =>
  rw [yAI (iJ.1 hok) hn]
  cases fine
  ·rfl
  ·cases (idx d).isEmpty <;> rfl
def gX (d : zN) : List yM := (idx d).map fun (i : Nat) => ⟨d, (i : Int), bdI d i⟩
theorem zVY (hd : d.ok) (hn : 100 ≤ n) : eH n d n 0 [] = some (gX d) := by
 have hl := hd.acl
 have hkn := hd.kn
 have hpw := (aG (i := d.acids.length) (by omega)).2
 have hpw4 : (2 : Int) ^ d.acids.length ≤ 16 := by
  have : (2 : Nat) ^ d.acids.length ≤ 2 ^ 4 := Nat.pow_le_pow_right (by omega) hl.2
  exact_mod_cast this
 have h1 := zDT ((d.acids.length : Nat) : Int) (eH n d) (fun i s K => (iR n d.known i).bind fun b => bif !b then K s else (lX n d i).bind fun r => match r with
     | .error v => bif qC v then K s else none
     | .ok f => (app s [f]).bind fun l' => K l') (fun s => some s) (fun k i s => by rw [eH]; rfl) (by omega) d.acids.length n 0 [] (by omega) (by omega) (by omega)
 rw [h1]
 have key : ∀ (r i : Nat) (s : List yM), i + r = d.acids.length → s.length ≤ i → fn ((d.acids.length : Nat) : Int) (fun i s K => (iR n d.known i).bind fun b => bif !b then K s else (lX n d i).bind fun r => match r with
     | .error v => bif qC v then K s else none
     | .ok f => (app s [f]).bind fun l' => K l') (fun s => some s) r (i : Int) s = some (s ++ ((List.range' i r).filter (cD d)).map fun (i : Nat) => (⟨d, (i : Int), bdI d i⟩ : yM)) := by
  intro r
  induction r with
  | zero => intro i s _ _; simp [fn]
  | succ r ih =>
   intro i s hi hs
   have hc : ((i : Int) + 1) = ((i + 1 : Nat) : Int) := by push_cast; rfl
   simp only [fn]
   rw [zWH (by omega) (by omega) (by omega), Option.bind_some, List.range'_succ, List.filter_cons, hc]
   cases hp : jZ d.known i with
   | false =>
    have : cD d i = false := by unfold cD; rw [hp]; rfl
    rw [this]
    simp only [Bool.not_false, cond_true]
    rw [ih (i + 1) s (by omega) (by omega)]; rfl
   | true =>
    simp only [Bool.not_true, cond_false]
    obtain ⟨k1, k2⟩ := zVV (n := n) hd hn (show i < d.acids.length by omega)
    by_cases hpo : aE d.adds d.strips (eX d i) (hrs d)
    ·have : cD d i = true := by unfold cD; rw [hp, decide_eq_true hpo]; rfl
     rw [this, k1 hpo]
     simp only [Option.bind_some, if_true]
     rw [bA (by simp; omega), Option.bind_some, ih (i + 1) _ (by omega) (by simp; omega)]
     simp
    ·have : cD d i = false := by unfold cD; rw [hp, decide_eq_false hpo]; rfl
     obtain ⟨v, hv, he⟩ := k2 hpo
     rw [this, he]
     simp only [Option.bind_some, hv, cond_true]
     rw [ih (i + 1) s (by omega) (by omega)]; rfl
 have := key d.acids.length 0 [] (by omega) (by simp)
 rw [← List.range_eq_range'] at this
 exact this
theorem zLX (hn : 100 ≤ n) (hs : eQ d) (fine : Bool) : cT n d fine = some (bif decide (err d fine = 0) then gX d else [], err d fine) := by
 unfold cT err
 rw [zWS hn hs, Option.bind_some]
 cases hok : okD d with
 | false => rfl
 | true =>
  cases fine
  ·rfl
  ·simp only [Bool.not_true, Bool.or_self, cond_false]
   rw [zVY (iJ.1 hok) hn, Option.bind_some]
   have : (gX d).isEmpty = (idx d).isEmpty := by unfold gX; cases idx d <;> rfl
   rw [this]
   cases (idx d).isEmpty <;> rfl
end
end
section
open Go Go.RowKit
def dN (d : zN) (i h : Nat) : zC := bd d.adds d.strips (eX d i) (hrs d) h
section
variable {n : Nat} {d : zN}
theorem zRF (i : Nat) : bdI d i = lst (hrs d) (dN d i) := rfl
theorem zGC {i h : Nat} (hh : h < hrs d) : ix (bdI d i) (h : Int) = some (dN d i h) := xS (by rw [zRF]; exact iK hh)
theorem yAK {i h : Nat} (hh : h < hrs d) : qS n ⟨d, (i : Int), bdI d i⟩ (h : Int) = some (dN d i h).low := by unfold qS; rw [zGC hh]; rfl
theorem yAJ {i h : Nat} (hh : h < hrs d) : qR n ⟨d, (i : Int), bdI d i⟩ (h : Int) = some (dN d i h).high := by unfold qR; rw [zGC hh]; rfl
theorem zFV (hd : d.ok) : (idx d).length ≤ 4 := by
 have := hd.acl
 have h1 := List.length_filter_le (cD d) (List.range d.acids.length)
 unfold idx
 rw [List.length_range] at h1
 omega
theorem zFU {i : Nat} (h : i ∈ idx d) : i < d.acids.length ∧ cD d i = true := by
 unfold idx at h
 rw [List.mem_filter, List.mem_range] at h
 exact h
theorem vV (m : Nat) (c : Nat → zC) : (lst m c).length = m := by simp [lst]
end
end
section
open Go Go.RowKit
def jQ (p : Nat → Bool) : Nat → Nat → Int
 | 0, _ => -1
 | r + 1, m => bif p m then (m : Int) else jQ p r (m + 1)
end
section
open Go Go.RowKit
def qt (p x : Int) : Int := (x * p).tdiv 100
def cut (p : Int) (g : Nat → Int) : Nat → Int
 | 0 => 0
 | t + 1 => cut p g t + qt p (g t)
def nG (b : yI) (g : Nat → Int) (t : Nat) : bF := ⟨max 0 (b.rough - cut b.polish g t), max 0 (b.thick - cut b.eat g t)⟩
theorem vR {p x : Int} (hp : 0 ≤ p ∧ p ≤ 100) (hx : 0 ≤ x ∧ x ≤ 5000) : 0 ≤ qt p x ∧ qt p x ≤ 5000 := by
 unfold qt
 have h1 : 0 ≤ x * p := Int.mul_nonneg hx.1 hp.1
 have h2 : x * p ≤ x * 100 := Int.mul_le_mul_of_nonneg_left hp.2 hx.1
 rw [Int.tdiv_eq_ediv_of_nonneg h1]
 omega
theorem zBT {p x : Int} (hp : 0 ≤ p ∧ p ≤ 100) (hx : 0 ≤ x ∧ x ≤ 5000) : quo .i64 (wr (x * p)) 100 = some (qt p x) := by
 have h1 : 0 ≤ x * p := Int.mul_nonneg hx.1 hp.1
 have h2 : x * p ≤ x * 100 := Int.mul_le_mul_of_nonneg_left hp.2 hx.1
 have h3 := vR hp hx
 rw [yE (by omega)]
 unfold quo
 rw [show decide ((100 : Int) = 0) = false from rfl, cond_false]
 exact congrArg some (yE (by unfold qt at h3; omega))
theorem sO {p : Int} {g : Nat → Int} (hp : 0 ≤ p ∧ p ≤ 100) : ∀ (t : Nat), (∀ h, h < t → 0 ≤ g h ∧ g h ≤ 5000) → 0 ≤ cut p g t ∧ cut p g t ≤ 5000 * t := by
 intro t
 induction t with
 | zero => intro _; simp [cut]
 | succ t ih =>
  intro h
  have h1 := ih (fun i hi => h i (by omega))
  have h2 := vR hp (h t (by omega))
  rw [cut]
  push_cast
  omega
def cU (m : Nat) (c : Nat → Int) : List Int := (List.range m).map c
theorem sJ (m : Nat) (c : Nat → Int) : cU (m + 1) c = cU m c ++ [c m] := by unfold cU; rw [List.range_succ, List.map_append]; rfl
theorem cN (m : Nat) (c : Nat → Int) : (cU m c).length = m := by simp [cU]
theorem uF {m h : Nat} {c : Nat → Int} (hh : h < m) : (cU m c)[h]? = some (c h) := by unfold cU; rw [List.getElem?_map, List.getElem?_range hh]; rfl
section
variable {n : Nat} {d : zN} {b : yI} {g : Nat → Int} {t : Nat}
theorem zNO {p : Int} (hp : 0 ≤ p ∧ p ≤ 100) (hn : 100 ≤ n) (ht : t ≤ 50) (hg : ∀ h, h < t → 0 ≤ g h ∧ g h ≤ 5000) : vA n (cU t (fun h => qt p (g h))) = some (cut p g t) := by
 have key : ∀ (r m k : Nat), m + r = t → r < k → aM (cU t (fun h => qt p (g h))) k (cut p g m) (m : Int) = some (cut p g t) := by
  intro r
  induction r with
  | zero =>
   intro m k hm hk
   obtain ⟨k, rfl⟩ : ∃ k', k = k' + 1 := ⟨k - 1, by omega⟩
   have : m = t := by omega
   subst this
   rw [aM, decide_eq_false (by rw [cN]; omega), cond_false]
  | succ r ih =>
   intro m k hm hk
   obtain ⟨k, rfl⟩ : ∃ k', k = k' + 1 := ⟨k - 1, by omega⟩
   have h1 := sO hp m (fun h hh => hg h (by omega))
   have h2 := vR hp (hg m (by omega))
   rw [aM, decide_eq_true (by rw [cN]; omega), cond_true, xS (uF (by omega)), Option.bind_some, yE (x := cut p g m + qt p (g m)) (by omega), yE (by omega)]
   exact_mod_cast ih (m + 1) k (by omega) (by omega)
 exact key t 0 n (by omega) (by omega)
theorem zNV (hb : b.ok) (hn : 100 ≤ n) (ht : t ≤ 50) {f : Int → Option Int} (hf : ∀ h, h < t → f (h : Int) = some (g h)) (hg : ∀ h, h < t → 0 ≤ g h ∧ g h ≤ 5000) : qZ n b (t : Int) f = some (nG b g t) := by
 obtain ⟨h1, h2, h3, h4, h5, h6⟩ := hb
 have key : ∀ (r m k : Nat), m + r = t → r < k → aU n f b (t : Int) k (m : Int) (cU m (fun h => qt b.polish (g h))) (cU m (fun h => qt b.eat (g h))) = some (nG b g t) := by
  intro r
  induction r with
  | zero =>
   intro m k hm hk
   obtain ⟨k, rfl⟩ : ∃ k', k = k' + 1 := ⟨k - 1, by omega⟩
   have : m = t := by omega
   subst this
   have c1 := sO h5 m hg
   have c2 := sO h6 m hg
   rw [aU, decide_eq_false (by omega), cond_false, zNO h5 hn ht hg, Option.bind_some, zNO h6 hn ht hg, Option.bind_some, yE (by omega), yE (by omega)]
   rfl
  | succ r ih =>
   intro m k hm hk
   obtain ⟨k, rfl⟩ : ∃ k', k = k' + 1 := ⟨k - 1, by omega⟩
   rw [aU, decide_eq_true (by omega), cond_true, hf m (by omega), Option.bind_some, zBT h5 (hg m (by omega)), Option.bind_some, bA (by rw [cN]; simp; omega), Option.bind_some,
    zBT h6 (hg m (by omega)), Option.bind_some, bA (by rw [cN]; simp; omega), Option.bind_some, yE (by omega)]
   have := ih (m + 1) k (by omega) (by omega)
   rw [sJ, sJ] at this
   exact_mod_cast this
 exact key t 0 n (by omega) (by omega)
theorem zNP (hb : b.ok) (hn : 100 ≤ n) (ht : t ≤ 50) {l : List Int} (hl : ∀ h, h < t → l[h]? = some (g h)) (hg : ∀ h, h < t → 0 ≤ g h ∧ g h ≤ 5000) : oZ n b l (t : Int) = some (nG b g t) := by
 obtain ⟨h1, h2, h3, h4, h5, h6⟩ := hb
 have key : ∀ (r m k : Nat), m + r = t → r < k → aN b l (t : Int) k (b.rough - cut b.polish g m) (b.thick - cut b.eat g m) (m : Int) = some (nG b g t) := by
  intro r
  induction r with
  | zero =>
   intro m k hm hk
   obtain ⟨k, rfl⟩ : ∃ k', k = k' + 1 := ⟨k - 1, by omega⟩
   have : m = t := by omega
   subst this
   rw [aN, decide_eq_false (by omega), cond_false]
   rfl
  | succ r ih =>
   intro m k hm hk
   obtain ⟨k, rfl⟩ : ∃ k', k = k' + 1 := ⟨k - 1, by omega⟩
   have hgm := hg m (by omega)
   have c1 := sO h5 m (fun h hh => hg h (by omega))
   have c2 := sO h6 m (fun h hh => hg h (by omega))
   have q1 := vR h5 hgm
   have q2 := vR h6 hgm
   rw [aN, decide_eq_true (by omega), cond_true, xS (hl m (by omega))]
   simp only [Option.bind_some, zBT h5 hgm, zBT h6 hgm]
   rw [yE (x := b.rough - cut b.polish g m - qt b.polish (g m)) (by omega), yE (x := b.thick - cut b.eat g m - qt b.eat (g m)) (by omega), yE (by omega)]
   have := ih (m + 1) k (by omega) (by omega)
   rw [show b.rough - cut b.polish g m - qt b.polish (g m) = b.rough - cut b.polish g (m + 1) by rw [cut]; omega, show b.thick - cut b.eat g m - qt b.eat (g m) = b.thick - cut b.eat g (m + 1) by rw [cut]; omega]
   exact_mod_cast this
 have := key t 0 n (by omega) (by omega)
 simpa [cut, oZ] using this
theorem zSH (hn : 100 ≤ n) {H : Nat} (hH : H ≤ 50) (c : Nat → zC) (hi : Bool) : uA n (lst H c) hi = some (cU H (fun h => bif hi then (c h).high else (c h).low)) := by
 have key : ∀ (r m k : Nat), m + r = H → r < k → cJ (lst H c) hi k (m : Int) (cU m (fun h => bif hi then (c h).high else (c h).low)) = some (cU H (fun h => bif hi then (c h).high else (c h).low)) := by
  intro r
  induction r with
  | zero =>
   intro m k hm hk
   obtain ⟨k, rfl⟩ : ∃ k', k = k' + 1 := ⟨k - 1, by omega⟩
   have : m = H := by omega
   subst this
   rw [cJ, decide_eq_false (by rw [vV]; omega), cond_false]
  | succ r ih =>
   intro m k hm hk
   obtain ⟨k, rfl⟩ : ∃ k', k = k' + 1 := ⟨k - 1, by omega⟩
   have := ih (m + 1) k (by omega) (by omega)
   rw [sJ] at this
   have e1 : wr ((m : Int) + 1) = ((m + 1 : Nat) : Int) := by rw [yE (by omega)]; push_cast; rfl
   rw [cJ, decide_eq_true (by rw [vV]; omega), cond_true, xS (iK (by omega)), e1]
   cases hi with
   | false =>
    simp only [Option.bind_some, cond_false] at this ⊢
    rw [bA (by rw [cN]; simp; omega), Option.bind_some]
    exact this
   | true =>
    simp only [Option.bind_some, cond_true] at this ⊢
    rw [bA (by rw [cN]; simp; omega), Option.bind_some]
    exact this
 exact key H 0 n (by omega) (by omega)
def loS (d : zN) (b : yI) (i t : Nat) : bF := nG b (fun h => (dN d i h).low) t
def hiS (d : zN) (b : yI) (i t : Nat) : bF := nG b (fun h => (dN d i h).high) t
def bOf (d : zN) (b : yI) (t i : Nat) : yY := ⟨⟨(hiS d b i t).rough, (loS d b i t).rough⟩, ⟨(hiS d b i t).thick, (loS d b i t).thick⟩⟩
def wP (x y : yY) : yY := ⟨⟨min x.rough.low y.rough.low, max x.rough.high y.rough.high⟩, ⟨min x.thick.low y.thick.low, max x.thick.high y.thick.high⟩⟩
def zAI (d : zN) (b : yI) (t : Nat) : yY := (idx d).foldl (fun s i => wP s (bOf d b t i)) (bOf d b t ((idx d).headD 0))
theorem sD (x : yY) : wP x x = x := by
 unfold wP
 ext <;> simp only <;> omega
theorem rU (hd : d.ok) {i h : Nat} (hi : i ∈ idx d) (hh : h < hrs d) : 0 ≤ (dN d i h).low ∧ (dN d i h).low ≤ (dN d i h).high ∧ (dN d i h).high ≤ 1300 := by
 obtain ⟨m1, m2⟩ := zFU hi
 have hhr := dL hd
 unfold cD at m2
 simp only [Bool.and_eq_true, decide_eq_true_eq] at m2
 have h1 := sL (st := d.strips) (zBH hd m1) hd.ad h
 have h2 := zIF (zBH hd m1) hd.ad m2.2 hh
 simp only [zC.ne] at h2
 unfold dN
 omega
theorem zFP (hd : d.ok) (hn : 100 ≤ n) (hb : b.ok) {i : Nat} (hi : i ∈ idx d) (ht : t ≤ hrs d) : qZ n b (t : Int) (fun z => qS n ⟨d, (i : Int), bdI d i⟩ z) = some (loS d b i t) := by
 have hhr := dL hd
 exact zNV hb hn (by omega) (fun h hh => yAK (by omega)) (fun h hh => by have := rU hd hi (show h < hrs d by omega); omega)
theorem zFQ (hd : d.ok) (hn : 100 ≤ n) (hb : b.ok) {i : Nat} (hi : i ∈ idx d) (ht : t ≤ hrs d) : qZ n b (t : Int) (fun z => qR n ⟨d, (i : Int), bdI d i⟩ z) = some (hiS d b i t) := by
 have hhr := dL hd
 exact zNV hb hn (by omega) (fun h hh => yAJ (by omega)) (fun h hh => by have := rU hd hi (show h < hrs d by omega); omega)
theorem zQO (hd : d.ok) (hn : 100 ≤ n) (hb : b.ok) {i : Nat} (hi : i ∈ idx d) (ht : t ≤ hrs d) : oZ n b (cU (hrs d) (fun h => (dN d i h).low)) (t : Int) = some (loS d b i t) := by
 have hhr := dL hd
 exact zNP hb hn (by omega) (fun h hh => uF (by omega)) (fun h hh => by have := rU hd hi (show h < hrs d by omega); omega)
theorem zQP (hd : d.ok) (hn : 100 ≤ n) (hb : b.ok) {i : Nat} (hi : i ∈ idx d) (ht : t ≤ hrs d) : oZ n b (cU (hrs d) (fun h => (dN d i h).high)) (t : Int) = some (hiS d b i t) := by
 have hhr := dL hd
 exact zNP hb hn (by omega) (fun h hh => uF (by omega)) (fun h hh => by have := rU hd hi (show h < hrs d by omega); omega)
theorem zNU (hd : d.ok) (hn : 100 ≤ n) (hb : b.ok) (hne : idx d ≠ []) (ht : t ≤ hrs d) : qY n (gX d) b (t : Int) = some (zAI d b t) := by
 have hil := zFV hd
 obtain ⟨i0, r0, hi0⟩ : ∃ i r, idx d = i :: r := by
  cases h : idx d with
  | nil => exact absurd h hne
  | cons i r => exact ⟨i, r, rfl⟩
 have hfl : (gX d).length = (idx d).length := by simp [gX]
 have rest : ∀ (r : List Nat) (p k : Nat) (x : yY), (idx d).drop p = r → 0 < p → p ≤ (idx d).length → (idx d).length < k + p → jY n (gX d) b (t : Int) k (p : Int) x = some (r.foldl (fun s i => wP s (bOf d b t i)) x) := by
  intro r
  induction r with
  | nil =>
   intro p k x hr hp hp2 hk
   have hpl : (idx d).length ≤ p := List.drop_eq_nil_iff.1 hr
   obtain ⟨k, rfl⟩ : ∃ k', k = k' + 1 := ⟨k - 1, by omega⟩
   rw [jY, decide_eq_false (by omega), cond_false]
   rfl
  | cons j r ih =>
   intro p k x hr hp hp2 hk
   have hpl : p < (idx d).length := by
    rcases Nat.lt_or_ge p (idx d).length with h | h
    ·exact h
    ·rw [List.drop_eq_nil_of_le h] at hr; cases hr
   obtain ⟨k, rfl⟩ : ∃ k', k = k' + 1 := ⟨k - 1, by omega⟩
   rw [List.drop_eq_getElem_cons hpl] at hr
   obtain ⟨hj, hr2⟩ := List.cons.inj hr
   have hjm : j ∈ idx d := by rw [← hj]; exact List.getElem_mem hpl
   have gx : ix (gX d) (p : Int) = some ⟨d, (j : Int), bdI d j⟩ := xS (by unfold gX; rw [List.getElem?_map, List.getElem?_eq_getElem hpl, hj]; rfl)
   rw [jY, decide_eq_true (by omega), cond_true, gx, Option.bind_some, zFP hd hn hb hjm ht, Option.bind_some, zFQ hd hn hb hjm ht, Option.bind_some, decide_eq_false (by omega), cond_false, yE (by omega)]
   exact_mod_cast ih (p + 1) k _ hr2 (by omega) (by omega) (by omega)
 obtain ⟨n', hn'⟩ : ∃ n', n = n' + 1 := ⟨n - 1, by omega⟩
 have him : i0 ∈ idx d := by rw [hi0]; exact List.mem_cons_self
 have g0 : ix (gX d) 0 = some ⟨d, (i0 : Int), bdI d i0⟩ := xS (i := 0) (by unfold gX; rw [hi0]; rfl)
 have h0 : jY n (gX d) b (t : Int) (n' + 1) 0 (yY.mk (zC.mk 0 0) (zC.mk 0 0)) = jY n (gX d) b (t : Int) n' 1 (bOf d b t i0) := by
  rw [jY, decide_eq_true (by rw [hfl, hi0]; simp), cond_true, g0, Option.bind_some, zFP hd hn hb him ht, Option.bind_some, zFQ hd hn hb him ht, Option.bind_some]
  rfl
 unfold qY
 rw [show jY n (gX d) b (t : Int) n 0 (yY.mk (zC.mk 0 0) (zC.mk 0 0)) = jY n (gX d) b (t : Int) (n' + 1) 0 (yY.mk (zC.mk 0 0) (zC.mk 0 0)) by rw [hn'], h0]
 have h1 := rest r0 1 n' (bOf d b t i0) (by rw [hi0]; rfl) (by omega) (by rw [hi0]; simp) (by omega)
 rw [show ((1 : Nat) : Int) = 1 from rfl] at h1
 rw [h1]
 unfold zAI
 rw [hi0]
 simp only [List.headD_cons, List.foldl_cons, sD]
theorem zSD (hd : d.ok) (hn : 100 ≤ n) {j : Nat} (hj : d.batches[j]? = some b) (hne : idx d ≠ []) (ht : t ≤ hrs d) : wU n d (j : Int) (t : Int) = some (zAI d b t) := by
 have hil := zFV hd
 have hhr := dL hd
 have hb := hd.bt b (List.mem_of_getElem? hj)
 obtain ⟨i0, r0, hi0⟩ : ∃ i r, idx d = i :: r := by
  cases h : idx d with
  | nil => exact absurd h hne
  | cons i r => exact ⟨i, r, rfl⟩
 have hfl : (iT (idx d)).length = (idx d).length := by simp [iT]
 have step : ∀ (p k : Nat) (x : yY) (i : Nat), (idx d)[p]? = some i → gI n d (j : Int) (t : Int) (iT (idx d)) (k + 1) (p : Int) x = gI n d (j : Int) (t : Int) (iT (idx d)) k ((p : Int) + 1) (wP (bif decide ((p : Int) = 0) then bOf d b t i else x) (bOf d b t i)) := by
  intro p k x i hi
  have hpl := (List.getElem?_eq_some_iff.1 hi).1
  have him : i ∈ idx d := List.mem_of_getElem? hi
  obtain ⟨m1, m2⟩ := zFU him
  have gx : ix (iT (idx d)) (p : Int) = some (i : Int) := xS (by unfold iT; rw [List.getElem?_map, hi]; rfl)
  have e1 : uA n (bdI d i) false = some (cU (hrs d) (fun h => (dN d i h).low)) := zSH hn (by omega) (dN d i) false
  have e2 : uA n (bdI d i) true = some (cU (hrs d) (fun h => (dN d i h).high)) := zSH hn (by omega) (dN d i) true
  rw [gI, decide_eq_true (by omega), cond_true, gx, Option.bind_some, zSB hd hn m1, m2]
  simp only [Option.bind_some, cond_true, xS hj, e1, e2, zQO hd hn hb him ht, zQP hd hn hb him ht]
  unfold nI
  rw [yE (by omega)]
  cases decide ((p : Int) = 0) <;> rfl
 have rest : ∀ (r : List Nat) (p k : Nat) (x : yY), (idx d).drop p = r → 0 < p → p ≤ (idx d).length → (idx d).length < k + p → gI n d (j : Int) (t : Int) (iT (idx d)) k (p : Int) x = some (r.foldl (fun s i => wP s (bOf d b t i)) x) := by
  intro r
  induction r with
  | nil =>
   intro p k x hr hp hp2 hk
   have hpl : (idx d).length ≤ p := List.drop_eq_nil_iff.1 hr
   obtain ⟨k, rfl⟩ : ∃ k', k = k' + 1 := ⟨k - 1, by omega⟩
   rw [gI, decide_eq_false (by omega), cond_false]
   rfl
  | cons q r ih =>
   intro p k x hr hp hp2 hk
   have hpl : p < (idx d).length := by
    rcases Nat.lt_or_ge p (idx d).length with h | h
    ·exact h
    ·rw [List.drop_eq_nil_of_le h] at hr; cases hr
   obtain ⟨k, rfl⟩ : ∃ k', k = k' + 1 := ⟨k - 1, by omega⟩
   rw [List.drop_eq_getElem_cons hpl] at hr
   obtain ⟨hq, hr2⟩ := List.cons.inj hr
   rw [step p k x q (by rw [List.getElem?_eq_getElem hpl, hq]), decide_eq_false (by omega), cond_false]
   exact_mod_cast ih (p + 1) k _ hr2 (by omega) (by omega) (by omega)
 obtain ⟨n', hn'⟩ : ∃ n', n = n' + 1 := ⟨n - 1, by omega⟩
 have h0 := step 0 n' (yY.mk (zC.mk 0 0) (zC.mk 0 0)) i0 (by rw [hi0]; rfl)
 rw [show decide (((0 : Nat) : Int) = 0) = true from rfl, cond_true, sD] at h0
 unfold wU
 rw [zSG hd hn, Option.bind_some]
 rw [show gI n d (j : Int) (t : Int) (iT (idx d)) n 0 (yY.mk (zC.mk 0 0) (zC.mk 0 0)) = gI n d (j : Int) (t : Int) (iT (idx d)) (n' + 1) ((0 : Nat) : Int) (yY.mk (zC.mk 0 0) (zC.mk 0 0)) by rw [hn']; rfl, h0]
 have h1 := rest r0 1 n' (bOf d b t i0) (by rw [hi0]; rfl) (by omega) (by rw [hi0]; simp) (by omega)
 rw [show (((0 : Nat) : Int) + 1) = ((1 : Nat) : Int) from rfl, h1]
 unfold zAI
 rw [hi0]
 simp only [List.headD_cons, List.foldl_cons, sD]
end
end
section
open Go Go.RowKit
def jH (p : Nat → Bool) : Nat → Int
 | 0 => -1
 | m + 1 => bif p m then (m : Int) else jH p m
def smP (d : zN) (b : yI) (t : Nat) : Bool := decide ((zAI d b t).rough.high ≤ b.goal)
def thP (d : zN) (b : yI) (t : Nat) : Bool := decide (b.least ≤ (zAI d b t).thick.low)
section
variable {n : Nat} {d : zN} {b : yI}
theorem zEH (hne : idx d ≠ []) : ∃ i0 : Nat, ix (gX d) 0 = some ⟨d, (i0 : Int), bdI d i0⟩ := by
 obtain ⟨i0, r0, hi0⟩ : ∃ i r, idx d = i :: r := by
  cases h : idx d with
  | nil => exact absurd h hne
  | cons i r => exact ⟨i, r, rfl⟩
 exact ⟨i0, xS (i := 0) (by unfold gX; rw [hi0]; rfl)⟩
theorem zSF (hd : d.ok) (hn : 100 ≤ n) (hb : b.ok) (hne : idx d ≠ []) : tZ n (gX d) b = some (jQ (smP d b) (hrs d + 1) 0) := by
 have hhr := dL hd
 have hH := vY hd
 obtain ⟨i0, g0⟩ := zEH hne
 have key : ∀ (r m k : Nat), m + r = hrs d + 1 → r < k → dW n (gX d) b ⟨d, (i0 : Int), bdI d i0⟩ k (m : Int) = some (jQ (smP d b) r m) := by
  intro r
  induction r with
  | zero =>
   intro m k hm hk
   obtain ⟨k, rfl⟩ : ∃ k', k = k' + 1 := ⟨k - 1, by omega⟩
   rw [dW, yE (x := d.hours + 1) (by omega), decide_eq_false (by omega), cond_false]
   rfl
  | succ r ih =>
   intro m k hm hk
   obtain ⟨k, rfl⟩ : ∃ k', k = k' + 1 := ⟨k - 1, by omega⟩
   rw [dW, yE (x := d.hours + 1) (by omega), decide_eq_true (by omega), cond_true, zNU hd hn hb hne (by omega), Option.bind_some, yE (by omega), jQ]
   have := ih (m + 1) k (by omega) (by omega)
   push_cast at this
   rw [this]
   show (bif smP d b m then _ else _) = _
   cases smP d b m <;> rfl
 unfold tZ
 rw [g0, Option.bind_some]
 exact key (hrs d + 1) 0 n (by omega) (by omega)
theorem zSE (hd : d.ok) (hn : 100 ≤ n) (hb : b.ok) (hne : idx d ≠ []) : tY n (gX d) b = some (jH (thP d b) (hrs d + 1)) := by
 have hhr := dL hd
 have hH := vY hd
 obtain ⟨i0, g0⟩ := zEH hne
 have key : ∀ (m k : Nat), m ≤ hrs d + 1 → m < k → dV n (gX d) b k ((m : Int) - 1) = some (jH (thP d b) m) := by
  intro m
  induction m with
  | zero =>
   intro k hm hk
   obtain ⟨k, rfl⟩ : ∃ k', k = k' + 1 := ⟨k - 1, by omega⟩
   rw [dV, decide_eq_false (by omega), cond_false]
   rfl
  | succ m ih =>
   intro k hm hk
   obtain ⟨k, rfl⟩ : ∃ k', k = k' + 1 := ⟨k - 1, by omega⟩
   have e0 : (((m + 1 : Nat) : Int) - 1) = (m : Int) := by omega
   rw [dV, e0, decide_eq_true (by omega), cond_true, zNU hd hn hb hne (by omega), Option.bind_some, yE (by omega), jH, ih k (by omega) (by omega)]
   show (bif thP d b m then _ else _) = _
   cases thP d b m <;> rfl
 unfold tY
 rw [g0, Option.bind_some]
 have := key (hrs d + 1) n (by omega) (by omega)
 rw [show (((hrs d + 1 : Nat) : Int) - 1) = d.hours by omega] at this
 exact this
theorem yAV (hd : d.ok) (hn : 100 ≤ n) {j : Nat} (hj : d.batches[j]? = some b) (hne : idx d ≠ []) : zDA n d (j : Int) = some (jQ (smP d b) (hrs d + 1) 0) := by
 have hhr := dL hd
 have hH := vY hd
 have key : ∀ (r m k : Nat), m + r = hrs d + 1 → r < k → eF n d (j : Int) k (m : Int) = some (jQ (smP d b) r m) := by
  intro r
  induction r with
  | zero =>
   intro m k hm hk
   obtain ⟨k, rfl⟩ : ∃ k', k = k' + 1 := ⟨k - 1, by omega⟩
   rw [eF, decide_eq_false (by omega), cond_false]
   rfl
  | succ r ih =>
   intro m k hm hk
   obtain ⟨k, rfl⟩ : ∃ k', k = k' + 1 := ⟨k - 1, by omega⟩
   rw [eF, decide_eq_true (by omega), cond_true, zSD hd hn hj hne (by omega), Option.bind_some, xS hj, Option.bind_some, yE (by omega), jQ]
   have := ih (m + 1) k (by omega) (by omega)
   push_cast at this
   rw [this]
   show (bif smP d b m then _ else _) = _
   cases smP d b m <;> rfl
 unfold zDA
 exact key (hrs d + 1) 0 n (by omega) (by omega)
theorem yAU (hd : d.ok) (hn : 100 ≤ n) {j : Nat} (hj : d.batches[j]? = some b) (hne : idx d ≠ []) : zCZ n d (j : Int) = some (jH (thP d b) (hrs d + 1)) := by
 have hhr := dL hd
 have hH := vY hd
 have key : ∀ (m k : Nat), m ≤ hrs d + 1 → m < k → eE n d (j : Int) k ((m : Int) - 1) = some (jH (thP d b) m) := by
  intro m
  induction m with
  | zero =>
   intro k hm hk
   obtain ⟨k, rfl⟩ : ∃ k', k = k' + 1 := ⟨k - 1, by omega⟩
   rw [eE, decide_eq_false (by omega), cond_false]
   rfl
  | succ m ih =>
   intro k hm hk
   obtain ⟨k, rfl⟩ : ∃ k', k = k' + 1 := ⟨k - 1, by omega⟩
   have e0 : (((m + 1 : Nat) : Int) - 1) = (m : Int) := by omega
   rw [eE, e0, decide_eq_true (by omega), cond_true, zSD hd hn hj hne (by omega), Option.bind_some, xS hj, Option.bind_some, yE (by omega), jH, ih k (by omega) (by omega)]
   show (bif thP d b m then _ else _) = _
   cases thP d b m <;> rfl
 unfold zCZ
 have := key (hrs d + 1) n (by omega) (by omega)
 rw [show (((hrs d + 1 : Nat) : Int) - 1) = d.hours by omega] at this
 exact this
theorem lS {fine : Bool} (he : err d fine = 0) : okD d = true ∧ fine = true ∧ idx d ≠ [] := by
 unfold err at he
 cases h : okD d <;> cases h2 : fine <;> rw [h, h2] at he <;> simp at he
 refine ⟨rfl, rfl, fun h3 => ?_⟩
 rw [h3] at he
 simp at he
end
end
section
open Go Go.RowKit
theorem zIZ {α : Type} [DecidableEq α] (l m : List α) (L : Nat → Int → Option Bool) (h : ∀ (k i : Nat), L (k + 1) (i : Int) = bif decide ((i : Int) < ((l.length : Nat) : Int)) then (ix l (i : Int)).bind (fun x => (ix m (i : Int)).bind fun y => bif !decide (x = y) then some false else L k (wr ((i : Int) + 1))) else some true)
  (hlen : l.length = m.length) (hl : l.length ≤ 1000) {n : Nat} (hn : l.length < n) : L n 0 = some (decide (l = m)) := by
 have h1 := bO l (fun k i (_ : Unit) => L k i) (fun i x s K => (ix m (i : Int)).bind fun y => bif !decide (x = y) then some false else K s) (fun _ => some true) (fun k i s => h k i) (by omega) n 0 () (by omega) (by omega)
 rw [show ((0 : Nat) : Int) = 0 from rfl] at h1
 rw [h1]
 have key : ∀ (r : List α) (i : Nat), l.drop i = r → fc (σ := Unit) (fun i x s K => (ix m (i : Int)).bind fun y => bif !decide (x = y) then some false else K s) (fun _ => some true) i r () = some (decide (r = m.drop i)) := by
  intro r
  induction r with
  | nil =>
   intro i hi
   have : l.length ≤ i := List.drop_eq_nil_iff.1 hi
   rw [List.drop_eq_nil_of_le (by omega)]
   simp [fc]
  | cons x r ih =>
   intro i hi
   have hil : i < l.length := by
    rcases Nat.lt_or_ge i l.length with h | h
    ·exact h
    ·rw [List.drop_eq_nil_of_le h] at hi; cases hi
   have hr : l.drop (i + 1) = r := by
    rw [List.drop_eq_getElem_cons hil] at hi
    cases hi; rfl
   rw [fc, xS (List.getElem?_eq_getElem (show i < m.length by omega)), Option.bind_some, List.drop_eq_getElem_cons (show i < m.length by omega), ih (i + 1) hr]
   generalize List.drop (i + 1) m = q
   generalize m[i] = y
   by_cases hx : x = y
   ·rw [decide_eq_true hx, Bool.not_true, cond_false]
    subst hx
    simp
   ·rw [decide_eq_false hx, Bool.not_false, cond_true]
    simp [hx]
 rw [List.drop_zero]
 simpa using key l 0 rfl
theorem zDU {α β γ : Type} (l : List α) (f : Nat → α → Option β) (g : α → β) (hf : ∀ i x, l[i]? = some x → f i x = some (g x)) (L : Nat → Int → List β → Option γ) (fin : List β → Option γ)
  (h : ∀ (k i : Nat) (s : List β), L (k + 1) (i : Int) s = bif decide ((i : Int) < ((l.length : Nat) : Int)) then (ix l (i : Int)).bind (fun x => (f i x).bind fun y => (app s [y]).bind fun s' => L k (wr ((i : Int) + 1)) s') else fin s)
  (hl : l.length ≤ 1000) {n : Nat} (hn : l.length < n) : L n 0 [] = fin (l.map g) := by
 have h1 := bO l L (fun i x s K => (f i x).bind fun y => (app s [y]).bind fun s' => K s') fin h (by omega) n 0 [] (by omega) (by omega)
 rw [show ((0 : Nat) : Int) = 0 from rfl] at h1
 rw [h1]
 have key : ∀ (r : List α) (i : Nat) (s : List β), l.drop i = r → s.length ≤ i → fc (fun i x s K => (f i x).bind fun y => (app s [y]).bind fun s' => K s') fin i r s = fin (s ++ r.map g) := by
  intro r
  induction r with
  | nil => intro i s _ _; simp [fc]
  | cons x r ih =>
   intro i s hi hs
   have hil : i < l.length := by
    rcases Nat.lt_or_ge i l.length with h | h
    ·exact h
    ·rw [List.drop_eq_nil_of_le h] at hi; cases hi
   rw [List.drop_eq_getElem_cons hil] at hi
   obtain ⟨hx, hr⟩ := List.cons.inj hi
   rw [fc, hf i x (by rw [List.getElem?_eq_getElem hil, hx]), Option.bind_some, bA (by simp; omega), Option.bind_some, ih (i + 1) _ hr (by simp; omega)]
   simp
 rw [List.drop_zero]
 simpa using key l 0 [] (by simp) (by simp)
theorem zSI (n : Nat) (hn : 100 ≤ n) (l m : List Int) (hl : l.length ≤ 50) : pN n l m = some (decide (l = m)) := by
 unfold pN
 by_cases hlen : l.length = m.length
 ·rw [show decide (((l.length : Nat) : Int) = ((m.length : Nat) : Int)) = true from decide_eq_true (by omega), Bool.not_true, cond_false]
  exact zIZ l m (iE l m) (fun k i => by rw [iE]) hlen (by omega) (by omega)
 ·rw [show decide (((l.length : Nat) : Int) = ((m.length : Nat) : Int)) = false from decide_eq_false (by omega), Bool.not_false, cond_true, decide_eq_false (fun h => hlen (by rw [h]))]
end
section
open Go Go.RowKit
theorem zHO (p : Nat → Bool) : ∀ (m : Nat), 0 ≤ jH p m → p (jH p m).toNat = true ∧ (jH p m).toNat < m ∧ ∀ i : Nat, jH p m < (i : Int) → i < m → p i = false := by
 intro m
 induction m with
 | zero => intro h; simp [jH] at h
 | succ m ih =>
  intro h
  rcases Bool.eq_false_or_eq_true (p m) with hp | hp
  ·have e : jH p (m + 1) = (m : Int) := by rw [jH, hp, cond_true]
   rw [e]
   exact ⟨by simpa using hp, by simp, fun i h1 h2 => by omega⟩
  ·have e : jH p (m + 1) = jH p m := by rw [jH, hp, cond_false]
   rw [e] at h ⊢
   obtain ⟨q1, q2, q3⟩ := ih h
   refine ⟨q1, by omega, fun i h1 h2 => ?_⟩
   by_cases e : i = m
   ·subst e; exact hp
   ·exact q3 i h1 (by omega)
end
section
open Go Go.RowKit
def hC (d : zN) (b : yI) : zC := bif decide (jQ (smP d b) (hrs d + 1) 0 < 0) then ⟨1, 0⟩ else ⟨jQ (smP d b) (hrs d + 1) 0, jH (thP d b) (hrs d + 1)⟩
def oK (d : zN) (b : yI) : zC :=
 bif decide (jQ (smP d b) (hrs d + 1) 0 < 0) || (decide (jH (thP d b) (hrs d + 1) < 0) || decide (jH (thP d b) (hrs d + 1) < jQ (smP d b) (hrs d + 1) 0)) then ⟨1, 0⟩ else ⟨jQ (smP d b) (hrs d + 1) 0, jH (thP d b) (hrs d + 1)⟩
def wsP (d : zN) : List zC := d.batches.map (hC d)
def wsR (d : zN) : List zC := d.batches.map (oK d)
section
variable {n : Nat} {d : zN}
theorem zLV (hd : d.ok) (hn : 100 ≤ n) (hne : idx d ≠ []) : qP n d (gX d) = some ⟨wsP d⟩ := by
 have hbt := hd.btl
 unfold qP
 refine zDU d.batches (fun _ b => (tZ n (gX d) b).bind fun v124 => (tY n (gX d) b).bind fun v125 => bif decide (v124 < 0) then tB n else some (zC.mk v124 v125)) (hC d) (fun i b hb => ?_) (bY n d (gX d)) (fun s => some (kA.mk s)) (fun k i s => ?_) (by omega) (by omega)
 ·have hb' := hd.bt b (List.mem_of_getElem? hb)
  rw [zSF hd hn hb' hne, Option.bind_some, zSE hd hn hb' hne, Option.bind_some]
  unfold hC tB
  cases decide (jQ (smP d b) (hrs d + 1) 0 < 0) <;> rfl
 ·rw [bY]
  by_cases hi : i < d.batches.length
  ·have hb' := hd.bt _ (List.getElem_mem hi)
   rw [xS (List.getElem?_eq_getElem hi), Option.bind_some, Option.bind_some, zSF hd hn hb' hne, Option.bind_some, Option.bind_some, zSE hd hn hb' hne, Option.bind_some, Option.bind_some]
   unfold tB nH
   cases decide (jQ (smP d d.batches[i]) (hrs d + 1) 0 < 0) <;> rfl
  ·have e1 : decide ((i : Int) < ((d.batches.length : Nat) : Int)) = false := decide_eq_false (by omega)
   rw [e1, cond_false, cond_false]
theorem zLY (hd : d.ok) (hn : 100 ≤ n) (hne : idx d ≠ []) : uB n d = some (wsR d) := by
 have hbt := hd.btl
 unfold uB
 refine zDU d.batches (fun _ b => some (oK d b)) (oK d) (fun i b hb => rfl) (fB n d) (fun s => some s) (fun k i s => ?_) (by omega) (by omega)
 rw [fB]
 by_cases hi : i < d.batches.length
 ·have hb := List.getElem?_eq_getElem hi
  rw [xS hb, Option.bind_some, yAV hd hn hb hne, Option.bind_some, yAU hd hn hb hne, Option.bind_some, Option.bind_some]
  unfold lB nL oK
  cases decide (jQ (smP d d.batches[i]) (hrs d + 1) 0 < 0) <;> cases decide (jH (thP d d.batches[i]) (hrs d + 1) < 0) <;> cases decide (jH (thP d d.batches[i]) (hrs d + 1) < jQ (smP d d.batches[i]) (hrs d + 1) 0) <;> rfl
 ·have e1 : decide ((i : Int) < ((d.batches.length : Nat) : Int)) = false := decide_eq_false (by omega)
  rw [e1, cond_false, cond_false]
theorem zWU (n : Nat) (w : List zC) (hw : w.length ≤ 6) : mY n ⟨w⟩ = some (2 ^ w.length - 1) := by
 have hpv := aG (i := w.length) hw
 unfold mY
 have hshl : shl .i64 1 ((List.length w : Nat) : Int) = some (2 ^ w.length) := by
  unfold shl
  rw [show decide ((0 : Int) ≤ ((List.length w : Nat) : Int)) = true from decide_eq_true (by omega), cond_true]
  have hm : min ((List.length w : Nat) : Int).toNat IntKind.i64.bits = w.length := by
   show min w.length 64 = w.length
   omega
  rw [hm, Int.one_mul]
  exact congrArg some (yE (by omega))
 rw [hshl, Option.bind_some, yE (by omega)]
end
end
section
open Go Go.RowKit
def bX (set : Int) : Nat → List zC → List zC
 | _, [] => []
 | i, s :: r => if jZ set i = true then s :: bX set (i + 1) r else bX set (i + 1) r
def com (w : List zC) (set : Int) : zC := kL ⟨0, 12⟩ (bX set 0 w)
theorem zNC : ∀ x : Nat, x < 64 → bits .and .i64 (x : Int) 1 = (x : Int) % 2 := by decide
section
variable {n : Nat} {d : zN} {b : yI}
theorem zSL {set : Int} {i : Nat} (hi : i ≤ 6) (h0 : 0 ≤ set) (h1 : set ≤ 63) : iR n set i = some (jZ set i) := by
 unfold iR
 have hp := aG hi
 have e1 : shr .i64 set (i : Int) = some (set / 2 ^ i) := by
  unfold shr
  rw [show decide ((0 : Int) ≤ (i : Int)) = true from decide_eq_true (by omega), cond_true]
  have hm : min ((i : Nat) : Int).toNat IntKind.i64.bits = i := by
   show min i 64 = i
   omega
  rw [hm, Int.fdiv_eq_ediv_of_nonneg _ (by omega)]
 rw [e1, Option.bind_some, jZ]
 have h3 : 0 ≤ set / 2 ^ i := Int.ediv_nonneg h0 (by omega)
 have h4 : set / 2 ^ i ≤ set := Int.ediv_le_self _ h0
 obtain ⟨x, hx⟩ := Int.eq_ofNat_of_zero_le h3
 rw [hx, zNC x (by omega)]
theorem zFL (set : Int) : ∀ (w : List zC) (i : Nat) (o : zC), nD (w.map kK) set i (o.low, o.high) = kK (kL o (bX set i w)) := by
 intro w
 induction w with
 | nil => intro i o; rfl
 | cons s r ih =>
  intro i o
  have e : zCM set i = jZ set i := by
   unfold zCM jZ
   rw [Bool.eq_iff_iff]
   simp
  rw [List.map_cons, nD, e, bX]
  by_cases h : jZ set i = true
  ·rw [if_pos h, if_pos h]
   exact ih (i + 1) (cap o s)
  ·rw [if_neg h, if_neg h]
   exact ih (i + 1) o
theorem zWT (hn : 100 ≤ n) (w : List zC) (hw : w.length ≤ 6) {set : Int} (h0 : 0 ≤ set) (h1 : set ≤ 63) : vM n ⟨w⟩ set = some (com w set) := by
 have e : sG n ⟨w⟩ set = some (com w set) := by
  unfold sG
  have h1 := bO w (bK n ⟨w⟩ set) (fun i x s K => bif jZ set i then K (cap s x) else K s) (fun s => some s) (fun k i s => by
   rw [bK]
   by_cases hi : i < w.length
   ·rw [xS (List.getElem?_eq_getElem hi), Option.bind_some, Option.bind_some, zSL (by omega) h0 h1, Option.bind_some]
    rfl
   ·have e1 : decide ((i : Int) < ((w.length : Nat) : Int)) = false := decide_eq_false (by omega)
    simp only [e1, cond_false]) (by omega) n 0 ⟨0, 12⟩ (by omega) (by omega)
  rw [show ((0 : Nat) : Int) = 0 from rfl, List.drop_zero] at h1
  rw [h1]
  have key : ∀ (l : List zC) (i : Nat) (s : zC), fc (fun i x s K => bif jZ set i then K (cap s x) else K s) (fun s => some s) i l s = some (kL s (bX set i l)) := by
   intro l
   induction l with
   | nil => intro i s; rfl
   | cons x r ih =>
    intro i s
    rw [fc, bX]
    by_cases h : jZ set i = true
    ·rw [h, cond_true, if_pos rfl, ih]; rfl
    ·have h' : jZ set i = false := by simpa using h
     rw [h', cond_false, if_neg (by simp), ih]
  exact key w 0 _
 unfold vM
 rw [e, Option.bind_some]
 have hc := zFL set w 0 ⟨0, 12⟩
 have hcm : kT (w.map kK) set = kK (com w set) := hc
 simp only [hcm, decide_true, cond_true]
theorem zLU (hn : 100 ≤ n) (w : List zC) (hw : w.length ≤ 6) {set : Int} (h0 : 0 ≤ set) (h1 : set ≤ 63) : qO n ⟨w⟩ set = some (decide (com w set).ne) := by
 unfold qO
 rw [zWT hn w hw h0 h1]
 rfl
theorem nF : (wsP d).length = d.batches.length := by simp [wsP]
end
end
section
open Go Go.RowKit
section
variable {n : Nat} {d : zN} {tr : zIL}
theorem zIX {s : zC} {x : Int} (h : s.mem x) : s.ne := by unfold zC.mem zC.ne at *; omega
end
end
section
open Go Go.RowKit
set_option maxRecDepth 4000
attribute [local irreducible] W Ops GS GSG
def lH (n : Nat) (v0 : zN) (v105 : ((List Int) × Int × Int)) (v106 : ((List Int) × Int)) : Option (Bool) := (zCV n v0).bind fun v113 => bif (!decide (v113 = 0)) then ( bif (decide (v105.2.2 = v113)) then ( bif (decide ((v105.1.length : Int) = 0)) then ( bif (decide (v105.2.1 = 0)) then ( bif (decide (v106.2 = v113)) then (
 bif (decide ((v106.1.length : Int) = 0)) then ( (zAA n ).bind fun v114 => some (v114) ) else ( some (false) ) ) else ( some (false) ) ) else ( some (false) ) ) else ( some (false) ) ) else ( some (false) ) ) else ( (uB n v0).bind fun v115 => (zCU n v115).bind fun v116 => bif (decide (v105.2.2 = 0)) then ( (pN n v105.1 v116).bind fun v117 => bif v117 then (
 (qT n v116).bind fun v118 => bif (decide (v105.2.1 = v118)) then ( bif (decide (v106.2 = 0)) then ( (zCT n v115).bind fun v119 => (pN n v106.1 v119).bind fun v120 => bif v120 then ( (zAA n ).bind fun v121 => some (v121) ) else ( some (false) ) ) else ( some (false) ) ) else ( some (false) ) ) else ( some (false) ) ) else ( some (false) ) )
def nX (n : Nat) (v0 : zN) (v105 : ((List Int) × Int × Int)) (v106 : ((List Int) × Int)) (v109 : Bool) : Option (Bool) := bif v109 then ( some (false) ) else ( lH n v0 v105 v106 )
def nW (n : Nat) (v0 : zN) (v105 : ((List Int) × Int × Int)) (v106 : ((List Int) × Int)) (v112 : Bool) : Option (Bool) := bif v112 then ( some (false) ) else ( lH n v0 v105 v106 )
def iH (n : Nat) (v0 : zN) (v1 : (List Int)) (v102 : Bool) : Option (Bool) := bif v102 then ( (zAA n ).bind fun v103 => some (v103) ) else ( (zCX n v0 v1).bind fun v104 => (wY n v0).bind fun v105 => (wX n v0).bind fun v106 => (zCW n v0 v1).bind fun v107 => (wZ n v0 v107).bind fun v108 => bif (!decide (v108 = 0)) then ( bif (!decide (v104.2 = v108)) then (
 nX n v0 v105 v106 true ) else ( nX n v0 v105 v106 v104.1 ) ) else ( bif (!decide (v104.2 = 0)) then ( nW n v0 v105 v106 true ) else ( (uB n v0).bind fun v110 => (wW n v110 v1).bind fun v111 => nW n v0 v105 v106 (!(v104.1 == v111)) ) ) )
def zGW (n : Nat) (v0 : zN) (v1 : (List Int)) : Option (Bool) := (zDB n v0).bind fun v101 => bif (!v101) then ( iH n v0 v1 true ) else ( iH n v0 v1 (decide (7 < (v1.length : Int))) )
theorem yCA (n : Nat) (v0 : zN) (v1 : (List Int)) {r : (Bool)} (h : zGW n v0 v1 = some r) :
  Fun Tryz.prog 11 [.agg (yA v0), .sl (v1.map eI)] (.ret (.b r)) := by
 unfold zGW at h
 refine zU 124 Tryz.func11 q q q ?_
 intro w0 F0
 change W _ _ (Ev [(0, .pv (.agg (yA v0))), (1, .pv (.sl (List.map eI v1)))]) _
 refine W.seq<|W.region<|ob (xB q q q q q) q q<|va q q q q q<|on0<|Sq.n<|W.seq<|W.seqJ (σ := Bool) (fun s => (⟨[(1, .pv (.sl (List.map eI v1))), (2, .box 2 0), (23, .pv (.b s))], [(2, 27, (bD v0))], []⟩ : Env)) (fun s => iH n v0 v1 s = some r) ?_ ?_
 ·refine W.region<|ov (zS q q q q q xG yU q q) q ?_
  obtain ⟨v101, e101, h⟩ := bind_some h
  refine ov (zD q q q zYL q (yBZ _ _ e101)) q<|ov (yW q q q q) q<|vm q q q q q<|Ops.split 19 q (fun hb => ?_) (fun hb => ?_)
  ·have h := zI h hb
   refine o2 q q q q q q<|o2 q q q q q q<|o2 q q q q q q<|vt q q q q q q<|on0<|Sq.n<|⟨true, h, zF ⟨q, q, q, trivial⟩ ⟨q, trivial⟩ trivial q⟩
  ·have h := zJ h hb
   refine on q q q<|vm q q q q q<|on q q q<|ov (zM (l := v1) (enc := eI) q xR q q q) q<|on q q q<|ov (gR q q q q q) q<|vf q q q q q q<|on0<|Sq.n<|⟨(decide (7 < (v1.length : Int))), h, zF ⟨q, q, q, trivial⟩ ⟨q, trivial⟩ trivial q⟩
 ·rintro v102 h
  change iH n v0 v1 v102 = some r at h
  unfold iH at h
  change W _ _ (⟨[(1, .pv (.sl (List.map eI v1))), (2, .box 2 0), (23, .pv (.b v102))], [(2, 27, (bD v0))], []⟩ : Env) _
  refine W.cond (b := v102) q (fun hc => ?_) (fun hc => ?_)
  ·have h := zI h hc
   refine W.seq<|W.region ?_
   obtain ⟨v103, e103, h⟩ := bind_some h
   refine ov (zD q q q zHY q (zNB _  e103)) q<|va q q q q q<|on0<|Sq.n<|W.ret<|Sq.r ?_
   obtain rfl := Option.some.inj h
   exact Fin.r q (.cons (.tmp _ _ q) .nil) q
  ·have h := zJ h hc
   refine W.skip<|Sq.n<|W.seq<|W.region<|ov (zS q q q q q xG yU q q) q<|vm q q q q q ?_
   obtain ⟨v104, e104, h⟩ := bind_some h
   refine ov (zD q q q zXZ q (yBN _ _ _ e104)) q<|vm q q q q q<|ov (zO q q q q q) q<|ov (zO q q q q q) q<|va q q q q q<|va q q q q q<|on0<|Sq.n<|W.seq<|W.region<|ov (zS q q q q q xG yU q q) q ?_
   obtain ⟨v105, e105, h⟩ := bind_some h
   refine ov (zD q q q zOQ q (zUW _ _ e105)) q<|vm q q q q q<|ov (zO q q q q q) q<|ov (zO q q q q q) q<|ov (zO q q q q q) q<|va q q q q q<|va q q q q q<|va q q q q q<|on0<|Sq.n<|W.seq<|W.region<|ov (zS q q q q q xG yU q q) q ?_
   obtain ⟨v106, e106, h⟩ := bind_some h
   refine ov (zD q q q zOP q (zUV _ _ e106)) q<|vm q q q q q<|ov (zO q q q q q) q<|ov (zO q q q q q) q<|va q q q q q<|va q q q q q<|on0<|Sq.n<|W.seqJ (σ := Unit) (fun s => (⟨[(2, .box 2 0), (7, .pv (.sl (List.map eI v105.1))), (8, .pv (.i v105.2.1)), (9, .pv (.i v105.2.2)), (10, .pv (.sl (List.map eI v106.1))), (11, .pv (.i v106.2))], [(2, 27, (bD v0))], []⟩ : Env)) (fun s => lH n v0 v105 v106  = some r) ?_ ?_
   ·refine W.seq ?_
    obtain ⟨v107, e107, h⟩ := bind_some h
    refine W.draw (m := 4) Checked.mixed (Pre.v (GSG.of q (zS q q q q q xG yU q q)) ((Pre.v (GSG.of q (zS q q q q q xG yU q q)) ((Pre.v (GSG.of q (zA q q q q)) ((Pre.v (GSG.of q (zD q q q zXY q (yBM _ _ _ e107))) (Pre.nil _)))))))) (by kernel_rfl) ?_
    obtain ⟨v108, e108, h⟩ := bind_some h
    refine ov (zD q q q zOR q (zUX _ _ _ e108)) q<|va q q q q q<|on0<|Sq.n<|W.seq<|W.region<|vm q q q q q<|ov (kN q q q q q) q<|on0<|Sq.n<|W.cond (b := (!decide (v108 = 0))) q (fun hc => ?_) (fun hc => ?_)
    ·have h := zI h hc
     refine W.seqJ (σ := Bool) (fun s => (⟨[(2, .box 2 0), (7, .pv (.sl (List.map eI v105.1))), (8, .pv (.i v105.2.1)), (9, .pv (.i v105.2.2)), (10, .pv (.sl (List.map eI v106.1))), (11, .pv (.i v106.2)), (54, .pv (.b s))], [(2, 27, (bD v0))], []⟩ : Env)) (fun s => nX n v0 v105 v106 s = some r) ?_ ?_
     ·refine W.region<|vm q q q q q<|vm q q q q q<|ov (kN q q q q q) q<|vm q q q q q<|Ops.split 52 q (fun hb => ?_) (fun hb => ?_)
      ·have h := zI h hb
       refine o2 q q q q q q<|vt q q q q q q<|on0<|Sq.n<|⟨true, h, zF ⟨q, q, q, q, q, q, q, trivial⟩ ⟨q, trivial⟩ trivial q⟩
      ·have h := zJ h hb
       refine on q q q<|vm q q q q q<|vf q q q q q q<|on0<|Sq.n<|⟨v104.1, h, zF ⟨q, q, q, q, q, q, q, trivial⟩ ⟨q, trivial⟩ trivial q⟩
     ·rintro v109 h
      change nX n v0 v105 v106 v109 = some r at h
      unfold nX at h
      change W _ _ (⟨[(2, .box 2 0), (7, .pv (.sl (List.map eI v105.1))), (8, .pv (.i v105.2.1)), (9, .pv (.i v105.2.2)), (10, .pv (.sl (List.map eI v106.1))), (11, .pv (.i v106.2)), (54, .pv (.b v109))], [(2, 27, (bD v0))], []⟩ : Env) _
      refine W.cond (b := v109) q (fun hc => ?_) (fun hc => ?_)
      ·have h := zI h hc
       refine W.seq<|W.region<|va q q q q q<|on0<|Sq.n<|W.ret<|Sq.r ?_
       obtain rfl := Option.some.inj h
       exact Fin.r q (.cons (.tmp _ _ q) .nil) q
      ·have h := zJ h hc
       refine W.skip<|Sq.n<|⟨(), h, zF ⟨q, q, q, q, q, q, trivial⟩ ⟨q, trivial⟩ trivial q⟩
    ·have h := zJ h hc
     refine W.seqJ (σ := Bool) (fun s => (⟨[(2, .box 2 0), (7, .pv (.sl (List.map eI v105.1))), (8, .pv (.i v105.2.1)), (9, .pv (.i v105.2.2)), (10, .pv (.sl (List.map eI v106.1))), (11, .pv (.i v106.2)), (64, .pv (.b s))], [(2, 27, (bD v0))], []⟩ : Env)) (fun s => nW n v0 v105 v106 s = some r) ?_ ?_
     ·refine W.region<|vm q q q q q<|ov (kN q q q q q) q<|vm q q q q q<|Ops.split 57 q (fun hb => ?_) (fun hb => ?_)
      ·have h := zI h hb
       refine o2 q q q q q q<|o2 q q q q q q<|o2 q q q q q q<|o2 q q q q q q<|o2 q q q q q q<|o2 q q q q q q<|vt q q q q q q<|on0<|Sq.n<|⟨true, h, zF ⟨q, q, q, q, q, q, q, trivial⟩ ⟨q, trivial⟩ trivial q⟩
      ·have h := zJ h hb
       refine on q q q<|vm q q q q q<|on q q q<|ov (zS q q q q q xG yU q q) q<|on q q q ?_
       obtain ⟨v110, e110, h⟩ := bind_some h
       refine ov (zD q q q zHW q (zMZ _ _ e110)) q<|on q q q<|vm q q q q q<|on q q q ?_
       obtain ⟨v111, e111, h⟩ := bind_some h
       refine ov (zD q q q zOO q (zUU _ _ _ e111)) q<|on q q q<|ov (zTE q q q q q yAC) q<|vf q q q q q q<|on0<|Sq.n<|⟨(!(v104.1 == v111)), h, zF ⟨q, q, q, q, q, q, q, trivial⟩ ⟨q, trivial⟩ trivial q⟩
     ·rintro v112 h
      change nW n v0 v105 v106 v112 = some r at h
      unfold nW at h
      change W _ _ (⟨[(2, .box 2 0), (7, .pv (.sl (List.map eI v105.1))), (8, .pv (.i v105.2.1)), (9, .pv (.i v105.2.2)), (10, .pv (.sl (List.map eI v106.1))), (11, .pv (.i v106.2)), (64, .pv (.b v112))], [(2, 27, (bD v0))], []⟩ : Env) _
      refine W.cond (b := v112) q (fun hc => ?_) (fun hc => ?_)
      ·have h := zI h hc
       refine W.seq<|W.region<|va q q q q q<|on0<|Sq.n<|W.ret<|Sq.r ?_
       obtain rfl := Option.some.inj h
       exact Fin.r q (.cons (.tmp _ _ q) .nil) q
      ·have h := zJ h hc
       refine W.skip<|Sq.n<|⟨(), h, zF ⟨q, q, q, q, q, q, trivial⟩ ⟨q, trivial⟩ trivial q⟩
   ·rintro ⟨⟩ h
    change lH n v0 v105 v106  = some r at h
    unfold lH at h
    change W _ _ (⟨[(2, .box 2 0), (7, .pv (.sl (List.map eI v105.1))), (8, .pv (.i v105.2.1)), (9, .pv (.i v105.2.2)), (10, .pv (.sl (List.map eI v106.1))), (11, .pv (.i v106.2))], [(2, 27, (bD v0))], []⟩ : Env) _
    refine W.seq<|W.seq<|W.region<|ov (zS q q q q q xG yU q q) q ?_
    obtain ⟨v113, e113, h⟩ := bind_some h
    refine ov (zD q q q zXX q (yBL _ _ e113)) q<|va q q q q q<|on0<|Sq.n<|W.seq<|W.region<|vm q q q q q<|ov (kN q q q q q) q<|on0<|Sq.n<|W.cond (b := (!decide (v113 = 0))) q (fun hc => ?_) (fun hc => ?_)
    ·have h := zI h hc
     refine W.seq<|W.region<|vm q q q q q<|vm q q q q q<|ov (kR q q q q q) q<|vm q q q q q<|Ops.split 72 q (fun hb => ?_) (fun hb => ?_)
     ·have h := zI h hb
      refine on q q q<|vm q q q q q<|on q q q<|ov (zM (l := v105.1) (enc := eI) q xR q q q) q<|on q q q<|ov (kR q q q q q) q<|vt q q q q q q<|vm q q q q q<|Ops.split 77 q (fun hb => ?_) (fun hb => ?_)
      ·have h := zI h hb
       refine on q q q<|vm q q q q q<|on q q q<|ov (kR q q q q q) q<|vt q q q q q q<|vm q q q q q<|Ops.split 81 q (fun hb => ?_) (fun hb => ?_)
       ·have h := zI h hb
        refine on q q q<|vm q q q q q<|on q q q<|vm q q q q q<|on q q q<|ov (kR q q q q q) q<|vt q q q q q q<|vm q q q q q<|Ops.split 86 q (fun hb => ?_) (fun hb => ?_)
        ·have h := zI h hb
         refine on q q q<|vm q q q q q<|on q q q<|ov (zM (l := v106.1) (enc := eI) q xR q q q) q<|on q q q<|ov (kR q q q q q) q<|vt q q q q q q<|vm q q q q q<|Ops.split 91 q (fun hb => ?_) (fun hb => ?_)
         ·have h := zI h hb
          refine on q q q ?_
          obtain ⟨v114, e114, h⟩ := bind_some h
          refine ov (zD q q q zHY q (zNB _  e114)) q<|vt q q q q q q<|va q q q q q<|on0<|Sq.n<|W.ret<|Sq.r ?_
          obtain rfl := Option.some.inj h
          exact Fin.r q (.cons (.tmp _ _ q) .nil) q
         ·have h := zJ h hb
          refine o2 q q q q q q<|vf q q q q q q<|va q q q q q<|on0<|Sq.n<|W.ret<|Sq.r ?_
          obtain rfl := Option.some.inj h
          exact Fin.r q (.cons (.tmp _ _ q) .nil) q
        ·have h := zJ h hb
         refine o2 q q q q q q<|o2 q q q q q q<|o2 q q q q q q<|vf q q q q q q<|vm q q q q q<|o2 q q q q q q<|vf q q q q q q<|va q q q q q<|on0<|Sq.n<|W.ret<|Sq.r ?_
         obtain rfl := Option.some.inj h
         exact Fin.r q (.cons (.tmp _ _ q) .nil) q
       ·have h := zJ h hb
        refine o2 q q q q q q<|o2 q q q q q q<|o2 q q q q q q<|vf q q q q q q<|vm q q q q q<|o2 q q q q q q<|o2 q q q q q q<|o2 q q q q q q<|vf q q q q q q<|vm q q q q q<|o2 q q q q q q<|vf q q q q q q<|va q q q q q<|on0<|Sq.n<|W.ret<|Sq.r ?_
        obtain rfl := Option.some.inj h
        exact Fin.r q (.cons (.tmp _ _ q) .nil) q
      ·have h := zJ h hb
       refine o2 q q q q q q<|o2 q q q q q q<|vf q q q q q q<|vm q q q q q<|o2 q q q q q q<|o2 q q q q q q<|o2 q q q q q q<|vf q q q q q q<|vm q q q q q<|o2 q q q q q q<|o2 q q q q q q<|o2 q q q q q q<|vf q q q q q q<|vm q q q q q<|o2 q q q q q q<|vf q q q q q q<|va q q q q q<|on0<|Sq.n<|W.ret<|Sq.r ?_
       obtain rfl := Option.some.inj h
       exact Fin.r q (.cons (.tmp _ _ q) .nil) q
     ·have h := zJ h hb
      refine o2 q q q q q q<|o2 q q q q q q<|o2 q q q q q q<|vf q q q q q q<|vm q q q q q<|o2 q q q q q q<|o2 q q q q q q<|vf q q q q q q<|vm q q q q q<|o2 q q q q q q<|o2 q q q q q q<|o2 q q q q q q<|vf q q q q q q<|vm q q q q q<|o2 q q q q q q<|o2 q q q q q q<|o2 q q q q q q<|vf q q q q q q<|vm q q q q q<|o2 q q q q q q<|vf q q q q q q<|va q q q q q<|on0<|Sq.n<|W.ret<|Sq.r ?_
      obtain rfl := Option.some.inj h
      exact Fin.r q (.cons (.tmp _ _ q) .nil) q
    ·have h := zJ h hc
     refine W.skip<|Sq.n<|W.seq<|W.region<|ov (zS q q q q q xG yU q q) q ?_
     obtain ⟨v115, e115, h⟩ := bind_some h
     refine ov (zD q q q zHW q (zMZ _ _ e115)) q<|va q q q q q<|on0<|Sq.n<|W.seq<|W.region<|vm q q q q q ?_
     obtain ⟨v116, e116, h⟩ := bind_some h
     refine ov (zD q q q zXW q (yBK _ _ e116)) q<|va q q q q q<|on0<|Sq.n<|W.seq<|W.region<|vm q q q q q<|ov (kR q q q q q) q<|vm q q q q q<|Ops.split 100 q (fun hb => ?_) (fun hb => ?_)
     ·have h := zI h hb
      refine on q q q<|vm q q q q q<|on q q q<|vm q q q q q<|on q q q ?_
      obtain ⟨v117, e117, h⟩ := bind_some h
      refine ov (zD q q q nE q (rR _ _ _ e117)) q<|vt q q q q q q<|vm q q q q q<|Ops.split 105 q (fun hb => ?_) (fun hb => ?_)
      ·have h := zI h hb
       refine on q q q<|vm q q q q q<|on q q q<|vm q q q q q<|on q q q ?_
       obtain ⟨v118, e118, h⟩ := bind_some h
       refine ov (zD q q q wF q (zET _ _ e118)) q<|on q q q<|ov (kR q q q q q) q<|vt q q q q q q<|vm q q q q q<|Ops.split 111 q (fun hb => ?_) (fun hb => ?_)
       ·have h := zI h hb
        refine on q q q<|vm q q q q q<|on q q q<|ov (kR q q q q q) q<|vt q q q q q q<|vm q q q q q<|Ops.split 115 q (fun hb => ?_) (fun hb => ?_)
        ·have h := zI h hb
         refine on q q q<|vm q q q q q<|on q q q<|vm q q q q q<|on q q q ?_
         obtain ⟨v119, e119, h⟩ := bind_some h
         refine ov (zD q q q zXV q (yBJ _ _ e119)) q<|on q q q ?_
         obtain ⟨v120, e120, h⟩ := bind_some h
         refine ov (zD q q q nE q (rR _ _ _ e120)) q<|vt q q q q q q<|vm q q q q q<|Ops.split 121 q (fun hb => ?_) (fun hb => ?_)
         ·have h := zI h hb
          refine on q q q ?_
          obtain ⟨v121, e121, h⟩ := bind_some h
          refine ov (zD q q q zHY q (zNB _  e121)) q<|vt q q q q q q<|va q q q q q<|on0<|Sq.n<|W.ret ?_
          obtain rfl := Option.some.inj h
          exact Fin.r q (.cons (.tmp _ _ q) .nil) q
         ·have h := zJ h hb
          refine o2 q q q q q q<|vf q q q q q q<|va q q q q q<|on0<|Sq.n<|W.ret ?_
          obtain rfl := Option.some.inj h
          exact Fin.r q (.cons (.tmp _ _ q) .nil) q
        ·have h := zJ h hb
         refine o2 q q q q q q<|o2 q q q q q q<|o2 q q q q q q<|o2 q q q q q q<|vf q q q q q q<|vm q q q q q<|o2 q q q q q q<|vf q q q q q q<|va q q q q q<|on0<|Sq.n<|W.ret ?_
         obtain rfl := Option.some.inj h
         exact Fin.r q (.cons (.tmp _ _ q) .nil) q
       ·have h := zJ h hb
        refine o2 q q q q q q<|o2 q q q q q q<|vf q q q q q q<|vm q q q q q<|o2 q q q q q q<|o2 q q q q q q<|o2 q q q q q q<|o2 q q q q q q<|vf q q q q q q<|vm q q q q q<|o2 q q q q q q<|vf q q q q q q<|va q q q q q<|on0<|Sq.n<|W.ret ?_
        obtain rfl := Option.some.inj h
        exact Fin.r q (.cons (.tmp _ _ q) .nil) q
      ·have h := zJ h hb
       refine o2 q q q q q q<|o2 q q q q q q<|o2 q q q q q q<|o2 q q q q q q<|vf q q q q q q<|vm q q q q q<|o2 q q q q q q<|o2 q q q q q q<|vf q q q q q q<|vm q q q q q<|o2 q q q q q q<|o2 q q q q q q<|o2 q q q q q q<|o2 q q q q q q<|vf q q q q q q<|vm q q q q q<|o2 q q q q q q<|vf q q q q q q<|va q q q q q<|on0<|Sq.n<|W.ret ?_
       obtain rfl := Option.some.inj h
       exact Fin.r q (.cons (.tmp _ _ q) .nil) q
     ·have h := zJ h hb
      refine o2 q q q q q q<|o2 q q q q q q<|o2 q q q q q q<|vf q q q q q q<|vm q q q q q<|o2 q q q q q q<|o2 q q q q q q<|o2 q q q q q q<|o2 q q q q q q<|vf q q q q q q<|vm q q q q q<|o2 q q q q q q<|o2 q q q q q q<|vf q q q q q q<|vm q q q q q<|o2 q q q q q q<|o2 q q q q q q<|o2 q q q q q q<|o2 q q q q q q<|vf q q q q q q<|vm q q q q q<|o2 q q q q q q<|vf q q q q q q<|va q q q q q<|on0<|Sq.n<|W.ret ?_
      obtain rfl := Option.some.inj h
      exact Fin.r q (.cons (.tmp _ _ q) .nil) q
end
section
open Go Go.RowKit
section
variable {d : zN}
theorem uQ {b : yI} (h : (hC d b).ne) : oK d b = hC d b := by
 unfold oK hC at *
 by_cases h1 : jQ (smP d b) (hrs d + 1) 0 < 0
 ·rw [decide_eq_true h1, cond_true] at h
  unfold zC.ne at h
  simp only at h
  omega
 ·rw [decide_eq_false h1, cond_false] at h ⊢
  unfold zC.ne at h
  simp only at h
  rw [decide_eq_false (show ¬ jH (thP d b) (hrs d + 1) < 0 by omega), decide_eq_false (show ¬ jH (thP d b) (hrs d + 1) < jQ (smP d b) (hrs d + 1) 0 by omega)]
  rfl
theorem zIN {b : yI} : (oK d b).ne ↔ (hC d b).ne := by
 constructor
 ·intro h
  unfold oK hC at *
  by_cases h1 : jQ (smP d b) (hrs d + 1) 0 < 0
  ·rw [decide_eq_true h1, Bool.true_or, cond_true] at h
   unfold zC.ne at h
   simp only at h
   omega
  ·rw [decide_eq_false h1, Bool.false_or] at h
   rw [decide_eq_false h1, cond_false]
   unfold zC.ne
   simp only
   by_cases h2 : jH (thP d b) (hrs d + 1) < jQ (smP d b) (hrs d + 1) 0
   ·rw [decide_eq_true h2, Bool.or_true, cond_true] at h
    unfold zC.ne at h
    simp only at h
    omega
   ·omega
 ·intro h
  rw [uQ h]
  exact h
theorem tU {l : List zC} {s : zC} (h : (kL s l).ne) : ∀ t ∈ l, t.ne := fun t ht => zIX ((oO.1 (zDQ h).1).2 t ht)
theorem zHH {l : List yI} {s : zC} (h : (kL s (l.map (hC d))).ne) : l.map (oK d) = l.map (hC d) :=
 List.map_congr_left (fun b hb => uQ (tU h _ (List.mem_map_of_mem hb)))
theorem zHG {l : List yI} {s : zC} : (kL s (l.map (oK d))).ne ↔ (kL s (l.map (hC d))).ne := by
 constructor
 ·intro h
  have e : l.map (oK d) = l.map (hC d) := List.map_congr_left (fun b hb => uQ (zIN.1 (tU h _ (List.mem_map_of_mem hb))))
  rw [← e]
  exact h
 ·intro h
  rw [zHH h]
  exact h
end
section
variable {α : Type} (lt : α → α → Bool)
def least : α → List α → α
 | x, [] => x
 | x, y :: r => least (bif lt y x then y else x) r
theorem sK : ∀ (l : List α) (x : α), least lt x l = x ∨ least lt x l ∈ l := by
 intro l
 induction l with
 | nil => intro x; exact .inl rfl
 | cons y r ih =>
  intro x
  rw [least]
  cases lt y x
  ·rw [cond_false]
   rcases ih x with h | h
   ·exact .inl h
   ·exact .inr (List.mem_cons_of_mem _ h)
  ·rw [cond_true]
   rcases ih y with h | h
   ·exact .inr (by rw [h]; exact List.mem_cons_self)
   ·exact .inr (List.mem_cons_of_mem _ h)
theorem zMF (htr : ∀ a b c, lt a b = true → lt b c = true → lt a c = true) (htot : ∀ a b, a ≠ b → lt a b = true ∨ lt b a = true) : ∀ (l : List α) (x : α), ∀ y, (y = x ∨ y ∈ l) → y = least lt x l ∨ lt (least lt x l) y = true := by
 intro l
 induction l with
 | nil =>
  intro x y hy
  rcases hy with rfl | hy
  ·exact .inl rfl
  ·cases hy
 | cons z r ih =>
  intro x y hy
  rw [least]
  have hb : ∀ w, (w = x ∨ w = z) → w = (bif lt z x then z else x) ∨ lt (bif lt z x then z else x) w = true := by
   intro w hw
   rcases Bool.eq_false_or_eq_true (lt z x) with hc | hc
   ·rw [hc, cond_true]
    rcases hw with rfl | rfl
    ·exact .inr hc
    ·exact .inl rfl
   ·rw [hc, cond_false]
    rcases hw with rfl | rfl
    ·exact .inl rfl
    ·by_cases e : w = x
     ·exact .inl e
     ·rcases htot w x e with h | h
      ·rw [hc] at h; cases h
      ·exact .inr h
  have key : ∀ w, (w = (bif lt z x then z else x) ∨ lt (bif lt z x then z else x) w = true) → w = least lt (bif lt z x then z else x) r ∨ lt (least lt (bif lt z x then z else x) r) w = true := by
   intro w hw
   have h1 := ih (bif lt z x then z else x) _ (.inl rfl)
   rcases hw with rfl | hw
   ·exact h1
   ·rcases h1 with h1 | h1
    ·rw [← h1]; exact .inr hw
    ·exact .inr (htr _ _ _ h1 hw)
  rcases hy with rfl | hy
  ·exact key _ (hb _ (.inl rfl))
  ·rcases List.mem_cons.1 hy with rfl | hy
   ·exact key _ (hb _ (.inr rfl))
   ·exact ih _ y (.inr hy)
theorem zHN (htr : ∀ a b c, lt a b = true → lt b c = true → lt a c = true) (hir : ∀ a, lt a a = false) (htot : ∀ a b, a ≠ b → lt a b = true ∨ lt b a = true) {x y : α} {l r : List α} (hmem : ∀ z, (z = x ∨ z ∈ l) ↔ (z = y ∨ z ∈ r)) (hs : ∀ z ∈ r, lt y z = true) : least lt x l = y := by
 have h1 := zMF lt htr htot l x y ((hmem y).2 (.inl rfl))
 rcases h1 with h1 | h1
 ·exact h1.symm
 ·exfalso
  have h2 : least lt x l = x ∨ least lt x l ∈ l := sK lt l x
  rcases (hmem _).1 h2 with h3 | h3
  ·rw [h3, hir] at h1; cases h1
  ·have := htr _ _ _ (hs _ h3) h1
   rw [hir] at this
   cases this
end
end
section
open Go Go.RowKit
def aA : List Int → List Int → Int
 | [], [] => 0
 | [], _ :: _ => -1
 | _ :: _, [] => 1
 | x :: r, y :: s => bif decide (x < y) then -1 else bif decide (y < x) then 1 else aA r s
theorem zJB : ∀ l : List Int, aA l l = 0 := by
 intro l
 induction l with
 | nil => rfl
 | cons x r ih => rw [aA, decide_eq_false (by omega), cond_false, cond_false, ih]
theorem vX : ∀ l m : List Int, (aA l m = -1 ∧ aA m l = 1) ∨ (aA l m = 1 ∧ aA m l = -1) ∨ (l = m ∧ aA l m = 0) := by
 intro l
 induction l with
 | nil =>
  intro m
  cases m with
  | nil => exact .inr (.inr ⟨rfl, rfl⟩)
  | cons y s => exact .inl ⟨rfl, rfl⟩
 | cons x r ih =>
  intro m
  cases m with
  | nil => exact .inr (.inl ⟨rfl, rfl⟩)
  | cons y s =>
   rw [aA, aA]
   by_cases h1 : x < y
   ·rw [decide_eq_true h1, decide_eq_false (show ¬ y < x by omega)]
    exact .inl ⟨rfl, rfl⟩
   ·by_cases h2 : y < x
    ·rw [decide_eq_false h1, decide_eq_true h2]
     exact .inr (.inl ⟨rfl, rfl⟩)
    ·rw [decide_eq_false h1, decide_eq_false h2]
     simp only [cond_false]
     have e : x = y := by omega
     subst e
     rcases ih s with h | h | ⟨h, h3⟩
     ·exact .inl h
     ·exact .inr (.inl h)
     ·subst h; exact .inr (.inr ⟨rfl, h3⟩)
theorem zHM : ∀ l m q : List Int, aA l m = -1 → aA m q = -1 → aA l q = -1 := by
 intro l
 induction l with
 | nil =>
  intro m q h1 h2
  cases m with
  | nil => cases h1
  | cons y s =>
   cases q with
   | nil => cases h2
   | cons z t => rfl
 | cons x r ih =>
  intro m q h1 h2
  cases m with
  | nil => cases h1
  | cons y s =>
   cases q with
   | nil => cases h2
   | cons z t =>
    rw [aA] at h1 h2 ⊢
    by_cases a1 : x < y
    ·by_cases a2 : z < y
     ·rw [decide_eq_false (show ¬ y < z by omega), decide_eq_true a2] at h2
      cases h2
     ·rw [decide_eq_true (show x < z by omega), cond_true]
    ·rw [decide_eq_false a1, cond_false] at h1
     by_cases a3 : y < x
     ·rw [decide_eq_true a3] at h1; cases h1
     ·rw [decide_eq_false a3, cond_false] at h1
      have e : x = y := by omega
      subst e
      by_cases a4 : x < z
      ·rw [decide_eq_true a4, cond_true]
      ·rw [decide_eq_false a4, cond_false] at h2 ⊢
       by_cases a5 : z < x
       ·rw [decide_eq_true a5] at h2; cases h2
       ·rw [decide_eq_false a5, cond_false] at h2 ⊢
        exact ih s t h1 h2
section
variable {n : Nat}
theorem zNR (hn : 100 ≤ n) (lt : List Int → List Int → Bool) (f : List Int → List Int → Option Bool) (x : List Int) (l : List (List Int)) (hl : l.length + 1 < n) (hl2 : l.length ≤ 10000) (hf : ∀ y z, (y = x ∨ y ∈ l) → (z = x ∨ z ∈ l) → f y z = some (lt y z)) : mV n (x :: l) f = some (least lt x l, true) := by
 unfold mV
 have h1 := bO (x :: l) (fun k i s => fY f (x :: l) k s i) (fun i y s K => bif decide ((i : Int) = 0) then K y else (f y s).bind fun b => bif b then K y else K s) (fun s => some (s, true)) (fun k i s => by
  simp only
  rw [fY]
  by_cases hi : i < (x :: l).length
  ·rw [xS (List.getElem?_eq_getElem hi)]
   simp only [Option.bind_some, lG, cond_true]
   rw [show decide ((0 : Int) < (((x :: l).length : Nat) : Int)) = true from decide_eq_true (by simp)]
  ·have e1 : decide ((i : Int) < (((x :: l).length : Nat) : Int)) = false := decide_eq_false (by omega)
   rw [e1, cond_false, cond_false, show decide ((0 : Int) < (((x :: l).length : Nat) : Int)) = true from decide_eq_true (by simp)]) (by simp; omega) n 0 [] (by simp; omega) (by omega)
 rw [show ((0 : Nat) : Int) = 0 from rfl, List.drop_zero] at h1
 refine h1.trans ?_
 rw [fc, show decide (((0 : Nat) : Int) = 0) = true from rfl, cond_true]
 have key : ∀ (r : List (List Int)) (i : Nat) (s : List Int), 0 < i → (∀ y ∈ r, y ∈ l) → (s = x ∨ s ∈ l) → fc (fun i y s K => bif decide ((i : Int) = 0) then K y else (f y s).bind fun b => bif b then K y else K s) (fun s => some (s, true)) i r s = some (least lt s r, true) := by
  intro r
  induction r with
  | nil => intro i s _ _ _; rfl
  | cons y r ih =>
   intro i s hi hr hs
   have hy := hr y List.mem_cons_self
   rw [fc, decide_eq_false (by omega), cond_false, hf y s (.inr hy) hs, Option.bind_some, least]
   cases lt y s
   ·exact ih (i + 1) s (by omega) (fun z hz => hr z (List.mem_cons_of_mem _ hz)) hs
   ·exact ih (i + 1) y (by omega) (fun z hz => hr z (List.mem_cons_of_mem _ hz)) (.inr hy)
 exact key l 1 x (by omega) (fun y hy => hy) (.inl rfl)
theorem zVZ (x y : Int) : uY n x y = some (bif decide (x < y) then -1 else bif decide (y < x) then 1 else 0) := by
 unfold uY
 have e : ∀ z : Int, sX n z = some false := fun z => by unfold sX; simp
 rw [e, e]
 simp only [Option.bind_some, cond_false]
 cases decide (x < y) <;> cases decide (y < x) <;> rfl
theorem zWM (hn : 100 ≤ n) (l m : List Int) (hl : l.length ≤ 50) : tC n l m = some (aA l m) := by
 unfold tC
 have h1 := bO l (fun k i (_ : Unit) => dI n l m k i) (fun i x s K => bif decide (((m.length : Nat) : Int) ≤ (i : Int)) then some 1 else (ix m (i : Int)).bind fun y => bif decide (x < y) then some (-1) else bif decide (y < x) then some 1 else K s) (fun _ => bif decide (((l.length : Nat) : Int) < ((m.length : Nat) : Int)) then some (-1) else some 0) (fun k i s => by
  simp only
  rw [dI]
  by_cases hi : i < l.length
  ·rw [xS (List.getElem?_eq_getElem hi)]
   simp only [Option.bind_some, zVZ]
   congr 2
   congr 1
   funext y
   by_cases h1 : l[i] < y
   ·rw [decide_eq_true h1]; rfl
   ·rw [decide_eq_false h1]
    by_cases h2 : y < l[i]
    ·rw [decide_eq_true h2]; rfl
    ·rw [decide_eq_false h2]; rfl
  ·have e1 : decide ((i : Int) < ((l.length : Nat) : Int)) = false := decide_eq_false (by omega)
   rw [e1, cond_false, cond_false]) (by omega) n 0 () (by omega) (by omega)
 rw [show ((0 : Nat) : Int) = 0 from rfl, List.drop_zero] at h1
 refine h1.trans ?_
 have key : ∀ (r : List Int) (i : Nat), l.drop i = r → i ≤ l.length → i ≤ m.length → fc (σ := Unit) (fun i x s K => bif decide (((m.length : Nat) : Int) ≤ (i : Int)) then some 1 else (ix m (i : Int)).bind fun y => bif decide (x < y) then some (-1) else bif decide (y < x) then some 1 else K s) (fun _ => bif decide (((l.length : Nat) : Int) < ((m.length : Nat) : Int)) then some (-1) else some 0) i r () = some (aA r (m.drop i)) := by
  intro r
  induction r with
  | nil =>
   intro i hi h2 h3
   have hil : l.length ≤ i := List.drop_eq_nil_iff.1 hi
   rw [fc]
   by_cases h : l.length < m.length
   ·rw [decide_eq_true (by omega), cond_true, List.drop_eq_getElem_cons (show i < m.length by omega)]
    rfl
   ·rw [decide_eq_false (by omega), cond_false, List.drop_eq_nil_of_le (by omega)]
    rfl
  | cons x r ih =>
   intro i hi h2 h3
   have hil : i < l.length := by
    rcases Nat.lt_or_ge i l.length with h | h
    ·exact h
    ·rw [List.drop_eq_nil_of_le h] at hi; cases hi
   have hr : l.drop (i + 1) = r := by
    rw [List.drop_eq_getElem_cons hil] at hi
    cases hi; rfl
   rw [fc]
   by_cases h : i < m.length
   ·rw [decide_eq_false (by omega), cond_false, xS (List.getElem?_eq_getElem h), Option.bind_some, List.drop_eq_getElem_cons h, aA, ih (i + 1) hr (by omega) (by omega)]
    cases decide (x < m[i]) <;> cases decide (m[i] < x) <;> rfl
   ·rw [decide_eq_true (by omega), cond_true, List.drop_eq_nil_of_le (by omega)]
    rfl
 exact key l 0 rfl (by omega) (by omega)
end
end
section
open Go Go.RowKit
def fU (m k : Nat) : List (List Int) := (eJ 1000 0 (m : Int) (k : Int)).getD []
theorem zME : ((List.range 6).all fun m => (List.range (m + 1)).all fun k => (eJ 1000 0 (m : Int) (k : Int)).isSome) = true := by kernel_rfl
theorem zWK {m k : Nat} (hm : m < 6) (hk : k ≤ m) : eJ 1000 0 (m : Int) (k : Int) = some (fU m k) := by
 have h := List.all_eq_true.1 (List.all_eq_true.1 zME m (List.mem_range.2 hm)) k (List.mem_range.2 (by omega))
 obtain ⟨l, hl⟩ := Option.isSome_iff_exists.1 h
 unfold fU
 rw [hl]
 rfl
def bB (m : Nat) : List (List Int) := (List.range (m + 1)).flatMap (fU m)
def fD (m : Nat) : List (List Int) := (List.range (2 ^ m)).map fun (s : Nat) => (pB 1000 (s : Int)).getD []
def iZ (lt : List Int → List Int → Bool) : List (List Int) → Bool
 | [] => true
 | x :: r => r.all (lt x) && iZ lt r
theorem zHK : ((List.range 6).all fun m => (bB m).all (fun l => (fD m).contains l) && (fD m).all (fun l => (bB m).contains l)) = true := by kernel_rfl
theorem zBI (lt : List Int → List Int → Bool) (p : List Int → Bool) : ∀ l : List (List Int), iZ lt l = true → iZ lt (l.filter p) = true := by
 intro l
 induction l with
 | nil => intro _; rfl
 | cons x r ih =>
  intro h
  rw [iZ, Bool.and_eq_true, List.all_eq_true] at h
  rw [List.filter_cons]
  cases p x
  ·exact ih h.2
  ·simp only [if_true]
   rw [iZ, Bool.and_eq_true, List.all_eq_true]
   exact ⟨fun y hy => h.1 y (List.mem_filter.1 hy).1, ih h.2⟩
theorem zAV {m : Nat} (hm : m < 6) (z : List Int) : z ∈ fD m ↔ z ∈ bB m := by
 have h := List.all_eq_true.1 zHK m (List.mem_range.2 hm)
 rw [Bool.and_eq_true, List.all_eq_true, List.all_eq_true] at h
 constructor
 ·intro hz
  have := h.2 z hz
  simpa using this
 ·intro hz
  have := h.1 z hz
  simpa using this
end
section
open Go Go.RowKit
theorem zJA : ((List.range 6).all fun m => (List.range (m + 1)).all fun k => decide ((fU m k).length ≤ 50) && (fU m k).all (fun l => decide (l.length ≤ 50))) = true := by kernel_rfl
theorem vW {m k : Nat} (hm : m < 6) (hk : k ≤ m) : (fU m k).length ≤ 50 ∧ ∀ l ∈ fU m k, l.length ≤ 50 := by
 have h := List.all_eq_true.1 (List.all_eq_true.1 zJA m (List.mem_range.2 hm)) k (List.mem_range.2 (by omega))
 rw [Bool.and_eq_true, decide_eq_true_eq, List.all_eq_true] at h
 exact ⟨h.1, fun l hl => of_decide_eq_true (h.2 l hl)⟩
end
section
open Go Go.RowKit
def oN (s : Nat) : List Int := (pB 1000 (s : Int)).getD []
def tJ (m s : Nat) : Int := bits .andNot .i64 (2 ^ m - 1) (s : Int)
theorem zPV : ((List.range 6).all fun m => (List.range (2 ^ m)).all fun s => (pB 1000 (s : Int)).isSome && (decide ((oN s).length ≤ 50) && (decide (0 ≤ tJ m s) && (decide (tJ m s ≤ 63) && (List.range m).all fun i => jZ (tJ m s) i == !(oN s).any (fun y => decide (y = (i : Int))))))) = true := by kernel_rfl
theorem zCL {m s : Nat} (hm : m < 6) (hs : s < 2 ^ m) : pB 1000 (s : Int) = some (oN s) ∧ (oN s).length ≤ 50 ∧ (0 ≤ tJ m s ∧ tJ m s ≤ 63) ∧ ∀ i, i < m → jZ (tJ m s) i = !(oN s).any (fun y => decide (y = (i : Int))) := by
 have h := List.all_eq_true.1 (List.all_eq_true.1 zPV m (List.mem_range.2 hm)) s (List.mem_range.2 hs)
 simp only [Bool.and_eq_true, decide_eq_true_eq, List.all_eq_true, beq_iff_eq, List.mem_range] at h
 obtain ⟨h1, h2, h3, h4, h5⟩ := h
 obtain ⟨l, hl⟩ := Option.isSome_iff_exists.1 h1
 refine ⟨?_, h2, ⟨h3, h4⟩, h5⟩
 unfold oN
 rw [hl]; rfl
end
section
open Go Go.RowKit
section
variable {d : zN}
theorem wO : (wsR d).length = d.batches.length := by simp [wsR]
end
end
section
open Go Go.RowKit
def rD (m : Int) : Int → List Int → Bool
 | _, [] => true
 | p, x :: r => decide (p < x) && (decide (x < m) && rD m x r)
theorem pF {m p x : Int} {r : List Int} : rD m p (x :: r) = true ↔ p < x ∧ x < m ∧ rD m x r = true := by
 rw [rD, Bool.and_eq_true, Bool.and_eq_true, decide_eq_true_eq, decide_eq_true_eq]
theorem zDE {m : Int} : ∀ (l : List Int) (p : Int), rD m p l = true → -1 ≤ p → p < m → (l.length : Int) + p + 1 ≤ m := by
 intro l
 induction l with
 | nil => intro p _ _ h; simp; omega
 | cons x r ih =>
  intro p h hp hm
  obtain ⟨h1, h2, h3⟩ := pF.1 h
  have := ih x h3 (by omega) h2
  simp only [List.length_cons]
  push_cast
  omega
def zBW (m : Nat) : Nat → Int → List (List Int)
 | 0, _ => [[]]
 | k + 1, p => [] :: (List.range m).flatMap fun (x : Nat) => bif decide (p < (x : Int)) then (zBW m k (x : Int)).map ((x : Int) :: ·) else []
theorem zBE {m : Nat} : ∀ (l : List Int) (p : Int) (k : Nat), rD m p l = true → -1 ≤ p → l.length ≤ k → l ∈ zBW m k p := by
 intro l
 induction l with
 | nil =>
  intro p k _ _ _
  cases k with
  | zero => exact List.mem_cons_self
  | succ k => exact List.mem_cons_self
 | cons x r ih =>
  intro p k h hp hk
  obtain ⟨h1, h2, h3⟩ := pF.1 h
  obtain ⟨n, rfl⟩ := Int.eq_ofNat_of_zero_le (show 0 ≤ x by omega)
  obtain ⟨k, rfl⟩ : ∃ k', k = k' + 1 := ⟨k - 1, by simp at hk; omega⟩
  rw [zBW]
  refine List.mem_cons_of_mem _ (List.mem_flatMap.2 ⟨n, List.mem_range.2 (by omega), ?_⟩)
  rw [decide_eq_true h1, cond_true]
  exact List.mem_map_of_mem (ih _ k h3 (by omega) (by simp at hk; omega))
theorem zDV : ((List.range 6).all fun m => (bB m).all fun l => rD m (-1) l && (decide (l.length < m) || decide (l = (List.range m).map (fun (i : Nat) => (i : Int))))) = true := by kernel_rfl
theorem zAW : ((List.range 6).all fun m => (zBW m 6 (-1)).all fun l => (bB m).contains l) = true := by kernel_rfl
theorem zQA {m : Nat} (hm : m < 6) {l : List Int} : rD m (-1) l = true ↔ l ∈ bB m := by
 constructor
 ·intro h
  by_cases h0 : m = 0
  ·subst h0
   cases l with
   | nil =>
    have := zBE (m := 0) [] (-1) 6 rfl (by omega) (by simp)
    simpa using List.all_eq_true.1 (List.all_eq_true.1 zAW 0 (List.mem_range.2 hm)) _ this
   | cons x r =>
    obtain ⟨h1, h2, _⟩ := pF.1 h
    omega
  ·have hl := zDE l (-1) h (by omega) (by omega)
   have := zBE l (-1) 6 h (by omega) (by omega)
   simpa using List.all_eq_true.1 (List.all_eq_true.1 zAW m (List.mem_range.2 hm)) _ this
 ·intro h
  have := List.all_eq_true.1 (List.all_eq_true.1 zDV m (List.mem_range.2 hm)) l h
  rw [Bool.and_eq_true] at this
  exact this.1
end
section
open Go Go.RowKit
def rn : Int → List Int → Int
 | c, [] => c
 | c, x :: r => rn (max c (x + 1)) r
def rgB : Int → List Int → Bool
 | _, [] => true
 | c, x :: r => decide (x ≤ c) && rgB (max c (x + 1)) r
def jO (v : Int) : List Int → List zC → List zC
 | x :: l, s :: w => bif decide (x = v) then s :: jO v l w else jO v l w
 | _, _ => []
theorem zNN : ∀ (l : List Int) (c : Int), c ≤ rn c l := by
 intro l
 induction l with
 | nil => intro c; exact Int.le_refl _
 | cons x r ih => intro c; have := ih (max c (x + 1)); rw [rn]; omega
theorem zIS : ∀ (l : List Int) (c x : Int), rn c (l ++ [x]) = max (rn c l) (x + 1) := by
 intro l
 induction l with
 | nil => intro c x; rfl
 | cons y r ih => intro c x; exact ih _ x
theorem zFO : ∀ (l : List Int) (c x : Int), rgB c (l ++ [x]) = (rgB c l && decide (x ≤ rn c l)) := by
 intro l
 induction l with
 | nil =>
  intro c x
  show (decide (x ≤ c) && true) = (true && decide (x ≤ c))
  rw [Bool.and_true, Bool.true_and]
 | cons y r ih => intro c x; rw [List.cons_append, rgB, ih, rgB, rn, Bool.and_assoc]
theorem zNM : ∀ (l : List Int) (c : Int), rgB c l = true → rn c l ≤ c + l.length := by
 intro l
 induction l with
 | nil => intro c _; simp [rn]
 | cons x r ih =>
  intro c h
  rw [rgB, Bool.and_eq_true, decide_eq_true_eq] at h
  have := ih _ h.2
  rw [rn]
  simp only [List.length_cons]
  push_cast
  omega
theorem zIR : ∀ (l : List Int) (c : Int), ∀ x ∈ l, x < rn c l := by
 intro l
 induction l with
 | nil => intro c x h; cases h
 | cons y r ih =>
  intro c x h
  rw [rn]
  rcases List.mem_cons.1 h with rfl | h
  ·have := zNN r (max c (x + 1)); omega
  ·exact ih _ x h
theorem zAC {n : Nat} (hn : 100 ≤ n) (l : List Int) (hl : l.length ≤ 50) (hb : ∀ x ∈ l, -1000 ≤ x ∧ x ≤ 1000) : qT n l = some (rn 0 l) := by
 unfold qT
 have key : ∀ (r : List Int) (i k : Nat) (c : Int), l.drop i = r → i ≤ l.length → l.length < k + i → (∀ x ∈ r, -1000 ≤ x ∧ x ≤ 1000) → dZ l k c (i : Int) = some (rn c r) := by
  intro r
  induction r with
  | nil =>
   intro i k c hi h2 hk _
   have hil : l.length ≤ i := List.drop_eq_nil_iff.1 hi
   obtain ⟨k, rfl⟩ : ∃ k', k = k' + 1 := ⟨k - 1, by omega⟩
   rw [dZ, decide_eq_false (by omega), cond_false]
   rfl
  | cons y r ih =>
   intro i k c hi h2 hk hb
   have hil : i < l.length := by
    rcases Nat.lt_or_ge i l.length with h | h
    ·exact h
    ·rw [List.drop_eq_nil_of_le h] at hi; cases hi
   obtain ⟨k, rfl⟩ : ∃ k', k = k' + 1 := ⟨k - 1, by omega⟩
   rw [List.drop_eq_getElem_cons hil] at hi
   obtain ⟨hx, hr⟩ := List.cons.inj hi
   have hy := hb y List.mem_cons_self
   rw [dZ, decide_eq_true (by omega), cond_true, xS (List.getElem?_eq_getElem hil), Option.bind_some, hx, yE (by omega), yE (by omega), rn]
   have := ih (i + 1) k (max c (y + 1)) hr (by omega) (by omega) (fun x hx => hb x (List.mem_cons_of_mem _ hx))
   push_cast at this
   exact this
 have := key l 0 n 0 (by simp) (by omega) (by omega) hb
 exact this
theorem zSN : ∀ i : Nat, i < 6 → ∀ a : Nat, a < 2 ^ i → bits .or .i64 (a : Int) ((2 : Int) ^ i) = (a : Int) + 2 ^ i := by decide
theorem zRE : ∀ i : Nat, i < 6 → ∀ a : Nat, a < 2 ^ i → ∀ j : Nat, j < 6 → jZ ((a : Int) + 2 ^ i) j = (jZ (a : Int) j || decide (j = i)) := by decide
theorem sW {i : Nat} (h : i ≤ 6) : shl .i64 1 (i : Int) = some (2 ^ i) := by
 have hpv := aG h
 unfold shl
 rw [show decide ((0 : Int) ≤ (i : Int)) = true from decide_eq_true (by omega), cond_true]
 have hm : min ((i : Nat) : Int).toNat IntKind.i64.bits = i := by
  show min i 64 = i
  omega
 rw [hm, Int.one_mul]
 exact congrArg some (yE (by omega))
def rP (l : List Int) (i : Nat) (out : List Int) : Prop := ∀ v : Nat, v < out.length → ∃ a : Nat, out[v]? = some (a : Int) ∧ a < 2 ^ i ∧ ∀ j, j < 6 → jZ (a : Int) j = (decide (j < i) && decide (l[j]? = some (v : Int)))
theorem zLO {l : List Int} {i : Nat} {out : List Int} (hi : i < 6) {v : Nat} (hv : v < out.length) (hx : l[i]? = some (v : Int)) (h : rP l i out) {y : Int} (hy : out[v]? = some y) : rP l (i + 1) (sts out (v : Int) (bits .or .i64 y (2 ^ i))) := by
 intro u hu
 have hlen : (sts out (v : Int) (bits .or .i64 y (2 ^ i))).length = out.length := by simp [sts]
 rw [hlen] at hu
 obtain ⟨a, ha, hlt, hb⟩ := h u hu
 have hp : 2 ^ i < 2 ^ (i + 1) := Nat.pow_lt_pow_right (by omega) (by omega)
 by_cases e : u = v
 ·subst e
  rw [hy] at ha
  cases ha
  have hg : (sts out (u : Int) (bits .or .i64 (a : Int) (2 ^ i)))[u]? = some ((a : Int) + 2 ^ i) := by
   simp [sts, List.getElem?_set, hv, zSN i hi a hlt]
  refine ⟨a + 2 ^ i, ?_, by rw [Nat.pow_succ]; omega, ?_⟩
  ·rw [hg]; push_cast; rfl
  ·intro j hj
   have := zRE i hi a hlt j hj
   push_cast
   rw [this, hb j hj]
   by_cases e2 : j = i
   ·subst e2
    rw [decide_eq_true rfl, decide_eq_true (show j < j + 1 by omega), decide_eq_true hx, Bool.or_true]; rfl
   ·rw [decide_eq_false e2, Bool.or_false]
    congr 1
    rw [decide_eq_decide]; omega
 ·refine ⟨a, ?_, by omega, ?_⟩
  ·have : (v : Int).toNat ≠ u := by simp; omega
   simp [sts, List.getElem?_set, this, ha, Ne.symm e]
  ·intro j hj
   rw [hb j hj]
   by_cases e2 : j = i
   ·subst e2
    have : ¬ l[j]? = some (u : Int) := by rw [hx]; intro h; cases h; exact e rfl
    rw [decide_eq_false this, Bool.and_false, Bool.and_false]
   ·congr 1
    rw [decide_eq_decide]; omega
theorem zNS {n : Nat} (hn : 100 ≤ n) (l : List Int) (hl : l.length ≤ 6) (h0 : ∀ x ∈ l, 0 ≤ x) :
  (rgB 0 l = false → qW n l = some ([], false)) ∧ (rgB 0 l = true → ∃ out, qW n l = some (out, true) ∧ (out.length : Int) = rn 0 l ∧ rP l l.length out) := by
 unfold qW
 have key : ∀ (r : List Int) (i k : Nat) (out : List Int), l.drop i = r → i ≤ l.length → l.length < k + i → out.length ≤ i → rP l i out → (∀ (j : Nat) (y : Int), j < i → l[j]? = some y → y < out.length) →
   (rgB out.length r = false → jL l k (i : Int) out = some ([], false)) ∧ (rgB out.length r = true → ∃ out', jL l k (i : Int) out = some (out', true) ∧ (out'.length : Int) = rn out.length r ∧ rP l l.length out') := by
  intro r
  induction r with
  | nil =>
   intro i k out hi h2 hk ho hc hv
   have hil : l.length ≤ i := List.drop_eq_nil_iff.1 hi
   obtain ⟨k, rfl⟩ : ∃ k', k = k' + 1 := ⟨k - 1, by omega⟩
   rw [jL, decide_eq_false (by omega), cond_false]
   obtain rfl : i = l.length := by omega
   exact ⟨fun h => (by cases h), fun _ => ⟨out, rfl, rfl, hc⟩⟩
  | cons x r ih =>
   intro i k out hi h2 hk ho hc hv
   have hil : i < l.length := by
    rcases Nat.lt_or_ge i l.length with h | h
    ·exact h
    ·rw [List.drop_eq_nil_of_le h] at hi; cases hi
   obtain ⟨k, rfl⟩ : ∃ k', k = k' + 1 := ⟨k - 1, by omega⟩
   rw [List.drop_eq_getElem_cons hil] at hi
   obtain ⟨hx, hr⟩ := List.cons.inj hi
   have hg : l[i]? = some x := by rw [List.getElem?_eq_getElem hil, hx]
   have hx0 : 0 ≤ x := h0 x (List.mem_of_getElem? hg)
   obtain ⟨v, rfl⟩ := Int.eq_ofNat_of_zero_le hx0
   rw [jL, decide_eq_true (by omega), cond_true, xS hg, Option.bind_some, rgB]
   have step : ∀ o2 : List Int, o2.length ≤ i + 1 → v < o2.length → rP l i o2 → (∀ (j : Nat) (y : Int), j < i → l[j]? = some y → y < o2.length) →
     (rgB o2.length r = false → aS (jL l k) (i : Int) (v : Int) o2 = some ([], false)) ∧ (rgB o2.length r = true → ∃ out', aS (jL l k) (i : Int) (v : Int) o2 = some (out', true) ∧ (out'.length : Int) = rn o2.length r ∧ rP l l.length out') := by
    intro o2 hlo hvo hco hvo2
    have hy : o2[v]? = some o2[v] := List.getElem?_eq_getElem hvo
    have h5 : aS (jL l k) (i : Int) (v : Int) o2 = jL l k ((i : Int) + 1) (sts o2 (v : Int) (bits .or .i64 o2[v] (2 ^ i))) := by
     unfold aS
     rw [xS hy, Option.bind_some, sW (by omega), Option.bind_some, Option.bind_some, yE (by omega)]
    have hlen : (sts o2 (v : Int) (bits .or .i64 o2[v] (2 ^ i))).length = o2.length := by simp [sts]
    have := ih (i + 1) k (sts o2 (v : Int) (bits .or .i64 o2[v] (2 ^ i))) hr (by omega) (by omega) (by omega) (zLO (by omega) hvo hg hco hy) (fun j y hj hjy => by
     rw [hlen]
     by_cases e : j = i
     ·subst e; rw [hg] at hjy; cases hjy; omega
     ·exact hvo2 j y (by omega) hjy)
    rw [hlen] at this
    push_cast at this
    rw [h5]
    exact this
   by_cases c1 : (out.length : Int) < (v : Int)
   ·rw [decide_eq_true c1, cond_true, decide_eq_false (by omega), Bool.false_and]
    exact ⟨fun _ => rfl, fun h => by cases h⟩
   ·rw [decide_eq_false c1, cond_false, decide_eq_true (show (v : Int) ≤ (out.length : Int) by omega), Bool.true_and]
    rw [rn]
    by_cases c2 : v = out.length
    ·rw [decide_eq_true (show (v : Int) = (out.length : Int) by omega), cond_true, bA (by simp; omega), Option.bind_some]
     have hl2 : (out ++ [0]).length = out.length + 1 := by simp
     have := step (out ++ [0]) (by omega) (by omega) (fun u hu => by
      rw [hl2] at hu
      by_cases e : u = out.length
      ·subst e
       refine ⟨0, by simp, Nat.pow_pos (by omega), fun j hj => ?_⟩
       have : (decide (j < i) && decide (l[j]? = some (out.length : Int))) = false := by
        rw [Bool.and_eq_false_iff]
        by_cases hji : j < i
        ·right
         refine decide_eq_false (fun h => ?_)
         have := hv j _ hji h
         omega
        ·left; exact decide_eq_false hji
       rw [this]
       simp [jZ]
      ·obtain ⟨a, b1, b2⟩ := hc u (by omega)
       exact ⟨a, by rw [List.getElem?_append_left (by omega)]; exact b1, b2⟩) (fun j y hj hjy => by have := hv j y hj hjy; rw [hl2]; omega)
     rw [hl2] at this
     rw [show max (out.length : Int) ((v : Int) + 1) = ((out.length + 1 : Nat) : Int) by omega]
     exact this
    ·rw [decide_eq_false (show ¬ (v : Int) = (out.length : Int) by omega), cond_false]
     have := step out (by omega) (by omega) hc hv
     rw [show max (out.length : Int) ((v : Int) + 1) = (out.length : Int) by omega]
     exact this
 have := key l 0 n [] (by simp) (by omega) (by omega) (by simp) (fun v hv => by simp at hv) (fun j y hj => by omega)
 exact this
def xZ (w : List zC) (l : List Int) : Bool := rgB 0 l && (List.range (rn 0 l).toNat).all (fun v => decide (eT (jO v l w)).ne)
theorem zSC {l : List Int} {a : Int} {v : Int} : ∀ (w : List zC) (i : Nat), (∀ j, j < i + w.length → jZ a j = (decide (j < l.length) && decide (l[j]? = some v))) → bX a i w = jO v (l.drop i) w := by
 intro w
 induction w with
 | nil => intro i _; cases l.drop i <;> rfl
 | cons s r ih =>
  intro i h
  have h1 := h i (by simp)
  have h2 := ih (i + 1) (fun j hj => h j (by simp only [List.length_cons]; omega))
  rw [bX, h1, h2]
  by_cases hi : i < l.length
  ·rw [List.drop_eq_getElem_cons hi, jO, List.getElem?_eq_getElem hi, decide_eq_true hi, Bool.true_and]
   by_cases e : l[i] = v
   ·rw [decide_eq_true e, decide_eq_true (by rw [e])]; rfl
   ·rw [decide_eq_false e, decide_eq_false (fun h => e (Option.some.inj h))]; rfl
  ·rw [decide_eq_false hi, List.drop_eq_nil_of_le (by omega), List.drop_eq_nil_of_le (by omega)]
   rfl
theorem zGD {α : Type} (l : List α) (p : α → Bool) : (!l.any (fun x => !p x)) = l.all p := by
 induction l with
 | nil => rfl
 | cons x r ih => rw [List.any_cons, List.all_cons, ← ih]; cases p x <;> simp
theorem zHC {n : Nat} (hn : 100 ≤ n) (w : List zC) (hw : w.length < 6) (l : List Int) (hl : l.length ≤ 6) (h0 : ∀ x ∈ l, 0 ≤ x) : tF n ⟨w⟩ l = some (xZ w l) := by
 obtain ⟨a1, a2⟩ := zNS hn l hl h0
 unfold tF xZ
 cases hr : rgB 0 l with
 | false => rw [a1 hr]; rfl
 | true =>
  obtain ⟨out, e, hlen, hc⟩ := a2 hr
  have h6 : 2 ^ l.length ≤ 64 := by
   have := Nat.pow_le_pow_right (show 0 < 2 by omega) (show l.length ≤ 6 by omega)
   simpa using this
  have hol : out.length ≤ 6 := by have := zNM l 0 hr; omega
  have hopen : ∀ x ∈ out, uZ n x ⟨w⟩ = some (!decide (com w x).ne) := by
   intro x hx
   obtain ⟨v, hv, rfl⟩ := List.getElem_of_mem hx
   obtain ⟨a, b1, b2, b3⟩ := hc v hv
   rw [List.getElem?_eq_getElem hv] at b1
   have b1 := Option.some.inj b1
   unfold uZ
   rw [zLU hn w (by omega) (by omega) (by omega)]
   rfl
  rw [e, Option.bind_some, cond_true, zHD hn out (by omega) _ (fun x => !decide (com w x).ne) hopen, Option.bind_some, zGD out (fun x => decide (com w x).ne), Bool.true_and]
  congr 1
  have hrn : (rn 0 l).toNat = out.length := by omega
  rw [hrn, Bool.eq_iff_iff, List.all_eq_true, List.all_eq_true]
  have conn : ∀ (v : Nat) (hv : v < out.length), com w out[v] = eT (jO v l w) := by
   intro v hv
   obtain ⟨a, b1, b2, b3⟩ := hc v hv
   rw [List.getElem?_eq_getElem hv] at b1
   rw [Option.some.inj b1]
   unfold com eT
   rw [zSC (l := l) (v := (v : Int)) w 0 (fun j hj => b3 j (by omega)), List.drop_zero]
  constructor
  ·intro h v hv
   have hv := List.mem_range.1 hv
   rw [← conn v hv]
   exact h _ (List.getElem_mem hv)
  ·intro h x hx
   obtain ⟨v, hv, rfl⟩ := List.getElem_of_mem hx
   rw [conn v hv]
   exact h v (List.mem_range.2 hv)
end
end Go.Proofs.YtohmhlkdgfcaeaaGreatDoor
