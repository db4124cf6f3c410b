/- What all claims of this seat share, part 5: the engine, the contracts, the frame. -/
import Derived.Laws.RangeAny
import Derived.Deep.LoopGhost
import Derived.KernelRfl
import Derived.Test.YtohmhlkdgfcaeaaGreatDoorK4
set_option linter.unusedVariables false
set_option linter.unusedSimpArgs false
namespace Go.Proofs.YtohmhlkdgfcaeaaGreatDoor
open Go Go.RowKit
theorem Rel.over {w0 : World} {F0 : Foot} {nt : Nat} {g : Ghost} {F : Foot} {E : Env} {a : Act} {w : World} {g2 : Ghost} {F2 : Foot} {E2 : Env} {a2 : Act} {w2 : World} (hr : Rel w0 F0 nt g F E a w) (h : Rel w F nt g2 F2 E2 a2 w2) : Rel w0 F0 nt g2 F2 E2 a2 w2 := by
 refine ⟨h.dfr, h.sz, h.ts, ?_, h.bd, h.bi, ?_, h.rd, h.ri, h.rb, h.ok, hr.ext.trans h.ext hr.le.m hr.le.mn, hr.le.trans h.le hr.ext.size⟩
 ·intro k T cs hk
  obtain ⟨b, us, h1, h2, h3, h4, h5, h6⟩ := h.bs k T cs hk
  exact ⟨b, us, h1, h2, h3, h4, Nat.le_trans hr.ext.size h5, h6⟩
 ·intro k R hk
  obtain ⟨v, inner, h1, h2, h3, h4⟩ := h.rs k R hk
  refine ⟨v, inner, h1, ⟨h2.1, ?_⟩, h3, h4⟩
  rcases h2.2 with hn | ⟨q, cap, cur, rfl, hq, rest⟩
  ·exact .inl hn
  ·exact .inr ⟨q, cap, cur, rfl, Nat.le_trans hr.ext.size hq, rest⟩
theorem Rel.anew {w0 : World} {F0 : Foot} {nt : Nat} {g : Ghost} {F : Foot} {l : List (Nat × TV)} {a : Act} {w : World} (hr : Rel w0 F0 nt g F ⟨l, [], []⟩ a w) (hl : ∀ p ∈ l, ∃ x, p.2 = .pv x) : Rel w F nt ⟨fun _ => none, fun _ => none⟩ F ⟨l, [], []⟩ a w := by
 refine ⟨hr.dfr, hr.sz, ?_, fun _ _ _ h => (by cases h), fun _ _ => rfl, fun _ _ _ h => (by cases h), fun _ _ h => (by cases h), fun _ _ => rfl, fun _ _ _ _ _ h => (by cases h), fun _ _ _ _ h => (by cases h), hr.ok, Ext.refl _ _, Foot.le.refl _ _⟩
 intro t v hv
 obtain ⟨u, h1, h2⟩ := hr.ts t v hv
 obtain ⟨x, hx⟩ := hl _ (lk_mem hv)
 simp only at hx
 subst hx
 exact ⟨u, h1, h2⟩
theorem wp_under {X : Cx} {g : Ghost} {F : Foot} {l : List (Nat × TV)} {a : Act} {w : World} {c : Code} {Q : Exit → Env → Prop} (hr : Rel X.w0 X.F0 X.nt g F ⟨l, [], []⟩ a w) (hl : ∀ p ∈ l, ∃ x, p.2 = .pv x)
  (h : W ⟨X.P, w, F, X.nt⟩ c ⟨l, [], []⟩ Q) : c.wp X.P (fun e a' w' => ∃ g' F' E', Rel X.w0 X.F0 X.nt g' F' E' a' w' ∧ Ext F w w' ∧ F.le F' w.heap.size ∧ Q e E') a w := by
 refine wp_mono (h _ _ _ _ (hr.anew hl)) ?_
 rintro e a' w' ⟨g', F', E', hr', hq⟩
 exact ⟨g', F', E', hr.over hr', hr'.ext, hr'.le, hq⟩
theorem W.mk {X : Cx} {c : Code} {E : Env} {Q : Exit → Env → Prop} (h : ∀ g F a w, Rel X.w0 X.F0 X.nt g F E a w → c.wp X.P (QQ X Q) a w) : W X c E Q := h
theorem W.app {X : Cx} {c : Code} {E : Env} {Q : Exit → Env → Prop} (h : W X c E Q) {g : Ghost} {F : Foot} {a : Act} {w : World} (hr : Rel X.w0 X.F0 X.nt g F E a w) : c.wp X.P (QQ X Q) a w := h g F a w hr
theorem wpList_val {P : Program} {ops : Array Oper} {rest : List Oper} {o : Oper} {a : Act} {w w' : World} {Q : Exit → Act → World → Prop} {v : Value} {d : Nat} (hg : o.guard = none) (hd : o.dst = some d) (hrun : (execOp a.eval o).run P w = .ok (.value v) w') (hk : wpList P ops Q rest (a.put (some d) v) w') : wpList P ops Q (o :: rest) a w := by
 simp only [wpList, wantedNone hg, if_true]
 refine .inl ?_
 unfold Oper.wp
 rw [hrun]
 simp only [Oper.upon, hd]
 exact hk
structure It (w0 : World) (b : Nat) (s : ByteArray) (pos : Nat) (F : Foot) (w : World) : Prop where
 at_ : w.heap[b]? = some (.stringIter s pos)
 lo : w0.heap.size ≤ b
 nc : ∀ o, ¬ F.c b o
theorem It.m {w0 : World} {b : Nat} {s : ByteArray} {pos : Nat} {F : Foot} {w : World} (h : It w0 b s pos F w) (ok : F.ok w) : ¬ F.m b := by
 rintro ⟨ws, hm⟩
 obtain ⟨es, clk, h1, _⟩ := ok.at_ _ _ hm
 rw [h.at_] at h1
 cases h1
theorem It.next {w0 : World} {b : Nat} {s : ByteArray} {pos : Nat} {F F' : Foot} {w w' : World} (h : It w0 b s pos F w) (ok : F.ok w) (hx : Ext F w w') (hl : F.le F' w.heap.size) : It w0 b s pos F' w' := by
 have hlt := (Array.getElem?_eq_some_iff.1 h.at_).1
 refine ⟨(hx.blk b hlt (h.m ok)).trans h.at_, h.lo, fun o hc => ?_⟩
 rcases hl.cn b o hc with z | z
 ·exact h.nc o z
 ·omega
def setIt (w : World) (b : Nat) (s : ByteArray) (p : Nat) : World := { w with heap := w.heap.setIfInBounds b (.stringIter s p) }
theorem It.turn {w0 : World} {b : Nat} {s : ByteArray} {pos : Nat} {F : Foot} {w : World} (h : It w0 b s pos F w) (ok : F.ok w) (p : Nat) : Turns w0 F (fun x => x = b) w (setIt w b s p) ∧ It w0 b s p F (setIt w b s p) := by
 have hlt := (Array.getElem?_eq_some_iff.1 h.at_).1
 refine ⟨⟨rfl, rfl, rfl, by simp [setIt], ?_, ?_⟩, ⟨by simp [setIt, hlt], h.lo, h.nc⟩⟩
 ·intro k hk hne
  simp only [setIt]
  exact Array.getElem?_setIfInBounds_ne (fun e => hne e.symm)
 ·rintro k rfl
  exact ⟨h.lo, h.nc, h.m ok⟩
theorem run_nextIt {P : Program} (w : World) (b : Nat) (s : ByteArray) (pos : Nat) (ty : TypeId) (hb : w.heap[b]? = some (.stringIter s pos)) (h : pos < s.size) :
  (Instr.next (.pointer (some ⟨b, 0, none⟩)) true ty).run P w = .ok (.tuple #[.bool true, .int .i64 pos, .int .i32 (Utf8.decode s pos).1]) (setIt w b s (pos + (Utf8.decode s pos).2)) := by
 simp only [Instr.next, getObj, setObj, Sem.run_bind, Sem.run, hb, Result.andThen, h, if_true, setIt]
 simp [goInt]
theorem run_nextEnd {P : Program} (w : World) (b : Nat) (s : ByteArray) (pos : Nat) (ty : TypeId) (hb : w.heap[b]? = some (.stringIter s pos)) (h : ¬ pos < s.size) :
  (Instr.next (.pointer (some ⟨b, 0, none⟩)) true ty).run P w = .ok (.tuple #[.bool false]) w := by
 simp [Instr.next, getObj, Sem.run, hb, h]
theorem run_rangeIt {P : Program} (w : World) (t : TypeId) (s : ByteArray) (h : P.underlying t = some .string) :
  (Instr.range t (.string s)).run P w = .ok (.pointer (some ⟨w.heap.size, 0, none⟩)) (w.alloc (.stringIter s 0)) := by
 simp [Instr.range, run_underlying h]
end Go.Proofs.YtohmhlkdgfcaeaaGreatDoor
namespace Go.Proofs.YtohmhlkdgfcaeaaGreatDoor
open Go Go.RowKit
set_option maxRecDepth 4000
attribute [local irreducible] W GS GSG
def s_160 (n : Nat) (v0 : Bool) (v1 : ByteArray) : Option (Except Value Unit) :=
 bif (!v0) then (
 some (.error (.iface 177 (.agg #[.string v1])))
 ) else (
 some (.ok ())
 )
theorem c_160 (n : Nat) (v0 : Bool) (v1 : ByteArray) {r : (Except Value Unit)} (h : s_160 n v0 v1 = some r) :
  Fun Tryz.prog 160 [.b v0, .s v1] (rs (fun r => .tup []) r) := by
 unfold s_160 at h
 refine enterW 9 Tryz.func160 rfl rfl rfl ?_
 intro w0 F0
 change W _ _ (⟨[(0, .pv (.b v0)), (1, .pv (.s v1))], [], []⟩ : Env) _
 refine W.seq ?_
 refine W.region ?_
 refine Ops.v (g_move rfl rfl rfl rfl) rfl ?_
 refine Ops.v (g_not rfl rfl rfl rfl) rfl ?_
 refine Ops.nil ?_
 refine Sq.n ?_
 refine W.cond (b := (!v0)) rfl (fun hc => ?_) (fun hc => ?_)
 ·have h := bif_t h hc
  refine W.region ?_
  refine Ops.v (g_move rfl rfl rfl rfl) rfl ?_
  refine Ops.v (g_build (cs := [.s v1]) rfl rfl rfl zr_177 st_177 rfl rfl) rfl ?_
  refine Ops.v (g_mkI (vs := [.string v1]) rfl rfl rfl rfl rfl ag_177) rfl ?_
  obtain rfl := Option.some.inj h
  refine Ops.panic rfl rfl rfl ?_
  exact Fin.p rfl
 ·have h := bif_f h hc
  refine W.skip ?_
  obtain rfl := Option.some.inj h
  exact Fin.n rfl (.nil) rfl
theorem sure_no (w : ByteArray) : Fun Tryz.prog 160 [.b false, .s w] (.pan (.iface 177 (.agg #[.string w]))) := c_160 0 false w (r := .error (.iface 177 (.agg #[.string w]))) rfl
theorem sure_yes (w : ByteArray) : Fun Tryz.prog 160 [.b true, .s w] (.ret (.tup [])) := c_160 0 true w (r := .ok ()) rfl
theorem ui21 : Tryz.prog.underlying 21 = some (.int .i32) := by kernel_rfl
def digs (l : List UInt8) : Int := l.foldl (fun n c => 10 * n + ((c.toNat : Int) - 48)) 0
theorem digs_snoc (l : List UInt8) (c : UInt8) : digs (l ++ [c]) = 10 * digs l + ((c.toNat : Int) - 48) := by simp [digs]
def isDig (c : UInt8) : Bool := decide (48 ≤ c.toNat) && decide (c.toNat ≤ 57)
def goodNum (w : ByteArray) : Bool := w.data.toList.all isDig && (decide (w.size ≤ 4) && (decide (w ≠ ⟨#[]⟩) && decide ((⟨(Lib.itoa (digs w.data.toList)).toArray⟩ : ByteArray) = w)))
def s_181 (n : Nat) (w : ByteArray) : Option (Except Value Int) := some (bif goodNum w then .ok (digs w.data.toList) else .error (.iface 177 (.agg #[.string w])))
theorem take_snoc (w : ByteArray) (pos : Nat) (h : pos < w.size) : w.data.toList.take (pos + 1) = w.data.toList.take pos ++ [w[pos]] := by
 have h' : pos < w.data.toList.length := by simpa using h
 rw [List.take_succ_eq_append_getElem h']
 rfl
theorem c_181 (n : Nat) (w : ByteArray) {r : Except Value Int} (h : s_181 n w = some r) : Fun Tryz.prog 181 [.s w] (rs (fun r => .val (.int .i64 r)) r) := by
 have hr0 : r = bif goodNum w then .ok (digs w.data.toList) else .error (.iface 177 (.agg #[.string w])) := (Option.some.inj h).symm
 clear h
 refine enterW 41 Tryz.func181 rfl rfl rfl ?_
 intro w0 F0
 change W _ _ (⟨[(0, .pv (.s w))], [], []⟩ : Env) _
 refine W.seq ?_
 refine W.region ?_
 refine Ops.v (g_assign rfl rfl rfl rfl) rfl ?_
 refine Ops.nil ?_
 refine Sq.n ?_
 refine W.seq ?_
 refine W.region ?_
 refine Ops.v (g_assign rfl rfl rfl rfl) rfl ?_
 refine Ops.nil ?_
 refine Sq.n ?_
 refine W.seq ?_
 refine W.mk fun g F a w1 hr => ?_
 refine wp_seq ?_
 refine wp_region_lit ?_
 have hev : a.eval (.tmp 0) = .string w := evT_val hr rfl
 refine wpList_val rfl rfl (by simp only [execOp, hev]; rfl) ?_
 refine wpList_val (v := .pointer (some ⟨w1.heap.size, 0, none⟩)) (w' := w1.alloc (.stringIter w 0)) rfl rfl ?_ ?_
 ·have hev2 : (a.put (some 6) (.string w)).eval (.tmp 6) = .string w := evT_val (hr.put (d := 6) (v := .pv (.s w)) (u := .string w) (show 6 < 41 by decide) (Rd.val _)) rfl
  simp only [execOp, hev2, Sem.run_bind, run_rangeIt w1 9 w us_9, Result.andThen_ok]
  rfl
 have hr2 := ((hr.put (d := 6) (v := .pv (.s w)) (u := .string w) (show 6 < 41 by decide) (Rd.val _)).alloc (.stringIter w 0)).put (d := 7) (v := .pv (.val (.pointer (some ⟨w1.heap.size, 0, none⟩)))) (u := .pointer (some ⟨w1.heap.size, 0, none⟩)) (show 7 < 41 by decide) (Rd.val _)
 have hit : It w0 w1.heap.size w 0 F (w1.alloc (.stringIter w 0)) := ⟨heap_alloc_new w1 _, hr.ext.size, fun o hc => by have := hr.ok.lt _ _ hc; omega⟩
 generalize hb : w1.heap.size = b at hr2 hit
 obtain ⟨g2, hr3⟩ := hr2.weaken (E' := (⟨[(0, .pv (.s w)), (3, .pv (.i (digs (w.data.toList.take 0)))), (7, .pv (.val (.pointer (some ⟨b, 0, none⟩))))], [], []⟩ : Env)) (has_mk ⟨rfl, rfl, rfl, trivial⟩ trivial trivial rfl)
 show Code.wp Tryz.prog (.block 0 _) _ _ _
 refine wp_block ?_
 refine wp_loop_ghost (fun m a w' => ∃ pos g F, m = w.size - pos ∧ pos ≤ w.size ∧ (w.data.toList.take pos).all isDig = true ∧ (0 < pos → w.size ≤ 4) ∧ 0 ≤ digs (w.data.toList.take pos) ∧ digs (w.data.toList.take pos) < 10 ^ pos ∧
   Rel w0 F0 41 g F (⟨[(0, .pv (.s w)), (3, .pv (.i (digs (w.data.toList.take pos)))), (7, .pv (.val (.pointer (some ⟨b, 0, none⟩))))], [], []⟩ : Env) a w' ∧ It w0 b w pos F w') w.size ⟨0, g2, F, rfl, Nat.zero_le _, rfl, by omega, by simp [digs], by simp [digs], hr3, hit⟩ ?_
 clear hr3 hr2 hit hev hr g2 hb
 rintro m a w2 ⟨pos, g, F, rfl, hpos, hall, h4, hd0, hd1, hr, hit⟩
 refine wp_seq ?_
 refine wp_region_lit ?_
 have hev : a.eval (.tmp 7) = .pointer (some ⟨b, 0, none⟩) := evT_val hr rfl
 by_cases hlt : pos < w.size
 ·have hrun := run_nextIt (P := Tryz.prog) w2 b w pos 0 hit.at_ hlt
  obtain ⟨c, hc⟩ : ∃ c, c = w[pos] := ⟨_, rfl⟩
  obtain ⟨cc, pos', hcc⟩ : ∃ (cc pos' : Nat), Utf8.decode w pos = (cc, pos') := ⟨(Utf8.decode w pos).1, (Utf8.decode w pos).2, by cases Utf8.decode w pos; rfl⟩
  have hp1 : cc < 128 → cc = c.toNat ∧ pos' = 1 := by
   intro hh
   by_cases ha : (w[pos]).toNat < 128
   ·rw [decode_ascii w pos hlt ha] at hcc
    simp only [Prod.mk.injEq] at hcc
    rw [hc]
    exact ⟨hcc.1.symm, hcc.2.symm⟩
   ·have := (decode_high w pos hlt (by omega)).1
    rw [hcc] at this
    simp only [] at this
    omega
  have hp2 : ¬ cc < 128 → ¬ isDig c = true := by
   intro hh hd
   by_cases ha : (w[pos]).toNat < 128
   ·rw [decode_ascii w pos hlt ha] at hcc
    simp only [Prod.mk.injEq] at hcc
    omega
   ·rw [hc] at hd; simp [isDig] at hd; omega
  rw [hcc] at hrun
  simp only [] at hrun
  obtain ⟨ht, hit2⟩ := hit.turn hr.ok (pos + pos')
  refine wpList_val rfl rfl (by simp only [execOp, hev, Sem.run_bind]; rw [show Instr.next (.pointer (some ⟨b, 0, none⟩)) true _ = Instr.next (.pointer (some ⟨b, 0, none⟩)) true 0 from rfl, hrun, Result.andThen_ok]; rfl) ?_
  have hr2 := (hr.still ht (fun k b' hb' e => by cases hk : lk ([] : List (Nat × TypeId × List TV)) k with
   | none => have := hr.bd k rfl; rw [this] at hb'; cases hb'
   | some p => cases hk) (fun k v b' hv' _ e => by have := hr.rd k rfl; rw [this] at hv'; cases hv')).put (d := 8) (v := .pv (.tup [.b true, .i (pos : Nat), .val (.int .i32 (cc : Nat))])) (u := .tuple #[.bool true, .int .i64 (pos : Nat), .int .i32 (cc : Nat)]) (by decide) (by
    refine Rd.tup _ _ rfl ?_
    intro j x u hx hu
    match j with
    | 0 => simp at hx hu; subst hx hu; exact .val _
    | 1 => simp at hx hu; subst hx hu; exact .val _
    | 2 => simp at hx hu; subst hx hu; exact .val _
    | j + 3 => simp at hx)
  have hev2 : (a.put (some 8) (.tuple #[.bool true, .int .i64 (pos : Nat), .int .i32 (cc : Nat)])).eval (.tmp 8) = .tuple #[.bool true, .int .i64 (pos : Nat), .int .i32 (cc : Nat)] := by
   have := hr.sz
   simp [Act.eval, Act.put, this]
  refine wpList_val (v := .bool true) rfl rfl (by simp only [execOp, hev2]; rfl) ?_
  have hr3 := hr2.put (d := 9) (v := .pv (.b true)) (u := .bool true) (by decide) (Rd.val _)
  have hbad : ¬ (48 ≤ (cc : Int)) ∨ ¬ ((cc : Int) ≤ 57) ∨ ¬ ((w.size : Int) ≤ 4) → goodNum w = false := by
   intro hx
   rw [Bool.eq_false_iff]
   intro hg
   simp only [goodNum, Bool.and_eq_true, List.all_eq_true, decide_eq_true_eq] at hg
   have hdc := hg.1 c (by rw [hc]; exact List.mem_iff_getElem.2 ⟨pos, by simpa using hlt, rfl⟩)
   have h128 : cc < 128 := by
    by_cases hh : cc < 128
    ·exact hh
    ·exact absurd hdc (hp2 hh)
   have he := (hp1 h128).1
   simp only [isDig, Bool.and_eq_true, decide_eq_true_eq] at hdc
   have := hg.2.1
   omega
  have hfull : 48 ≤ (cc : Int) → (cc : Int) ≤ 57 → (w.size : Int) ≤ 4 → cc = c.toNat ∧ pos' = 1 ∧ (w.data.toList.take (pos + 1)).all isDig = true ∧ digs (w.data.toList.take (pos + 1)) = 10 * digs (w.data.toList.take pos) + ((cc : Int) - 48) ∧ digs (w.data.toList.take (pos + 1)) < 10 ^ (pos + 1) ∧ 0 ≤ digs (w.data.toList.take (pos + 1)) ∧ digs (w.data.toList.take pos) < 1000 := by
   intro h1 h2 h3
   obtain ⟨e1, e2⟩ := hp1 (by omega)
   rw [take_snoc w pos hlt, digs_snoc, List.all_append, hall, ← hc]
   have hpw : (10 : Int) ^ (pos + 1) = 10 ^ pos * 10 := Int.pow_succ _ _
   have hp3 : (10 : Int) ^ pos ≤ 1000 := by
    have : pos = 0 ∨ pos = 1 ∨ pos = 2 ∨ pos = 3 := by omega
    rcases this with rfl | rfl | rfl | rfl <;> decide
   refine ⟨e1, e2, by simp [isDig]; omega, by rw [e1], by rw [hpw]; omega, by omega, by omega⟩
  have hsum : 48 ≤ (cc : Int) → (cc : Int) ≤ 57 → (w.size : Int) ≤ 4 → IntKind.i64.wrap (IntKind.i64.wrap (10 * digs (w.data.toList.take pos)) + IntKind.i64.wrap (IntKind.i32.wrap ((cc : Int) - 48))) = digs (w.data.toList.take (pos + 1)) := by
   intro h1 h2 h3
   obtain ⟨_, _, _, e, _, _, _⟩ := hfull h1 h2 h3
   rw [e, IntKind.wrap_i64, IntKind.wrap_i64, IntKind.wrap_i64, IntKind.wrap_i32]
   omega
  have hgood : 48 ≤ (cc : Int) → (cc : Int) ≤ 57 → (w.size : Int) ≤ 4 → ∀ E' : Env, E'.has (⟨[(0, .pv (.s w)), (3, .pv (.i (digs (w.data.toList.take (pos + 1))))), (7, .pv (.val (.pointer (some ⟨b, 0, none⟩))))], [], []⟩ : Env) →
    (48 ≤ (cc : Int) ∧ (cc : Int) ≤ 57 ∧ (w.size : Int) ≤ 4 ∧ E'.has (⟨[(0, .pv (.s w)), (3, .pv (.i (digs (w.data.toList.take (pos + 1))))), (7, .pv (.val (.pointer (some ⟨b, 0, none⟩))))], [], []⟩ : Env)) := fun h1 h2 h3 E' hE => ⟨h1, h2, h3, hE⟩
  show Code.wp Tryz.prog (.seq _ _) _ _ _
  refine wp_mono (wp_under (X := ⟨Tryz.prog, w0, F0, 41⟩) (Q := fun e E' => match e with
   | .normal => 48 ≤ (cc : Int) ∧ (cc : Int) ≤ 57 ∧ (w.size : Int) ≤ 4 ∧ E'.has (⟨[(0, .pv (.s w)), (3, .pv (.i (digs (w.data.toList.take (pos + 1))))), (7, .pv (.val (.pointer (some ⟨b, 0, none⟩))))], [], []⟩ : Env)
   | .panic ch => ch = [{ v := .iface 177 (.agg #[.string w]), recovered := false }] ∧ goodNum w = false
   | _ => False) hr3 (by simp) ?_) ?_
  ·refine W.seq ?_
   refine W.cond (b := true) rfl (fun hc => ?_) (fun hc => absurd hc (by decide))
   refine W.skip ?_
   refine Sq.n ?_
   refine W.block ?_
   refine W.seq ?_
   refine W.region ?_
   refine Ops.v (g_extract rfl rfl rfl rfl rfl) rfl ?_
   refine Ops.v (g_assign rfl rfl rfl rfl) rfl ?_
   refine Ops.nil ?_
   refine Sq.n ?_
   refine W.seq ?_
   refine W.region ?_
   refine Ops.v (g_move rfl rfl rfl rfl) rfl ?_
   by_cases h1 : 48 ≤ (cc : Int)
   ·by_cases h2 : (cc : Int) ≤ 57
    ·by_cases h3 : (w.size : Int) ≤ 4
     ·skip
      refine Ops.v (g_geq rfl rfl rfl rfl rfl) rfl ?_
      refine Ops.conv (Conv.retell (v' := .pv (.b true)) 12 rfl (by rw [decide_eq_true h1])) ?_
      refine Ops.v (g_move rfl rfl rfl rfl) rfl ?_
      refine Ops.on rfl rfl rfl ?_
      refine Ops.v (g_move rfl rfl rfl rfl) rfl ?_
      refine Ops.on rfl rfl rfl ?_
      refine Ops.v (g_leq rfl rfl rfl rfl rfl) rfl ?_
      refine Ops.conv (Conv.retell (v' := .pv (.b true)) 15 rfl (by rw [decide_eq_true h2])) ?_
      refine Ops.v (g_pickT rfl rfl rfl rfl rfl) rfl ?_
      refine Ops.v (g_move rfl rfl rfl rfl) rfl ?_
      refine Ops.on rfl rfl rfl ?_
      refine Ops.v (g_move rfl rfl rfl rfl) rfl ?_
      refine Ops.on rfl rfl rfl ?_
      refine Ops.v (g_len_s (c := { callee := .builtin .len, args := #[], argTypes := #[] }) rfl us_9 rfl rfl rfl) rfl ?_
      refine Ops.on rfl rfl rfl ?_
      refine Ops.v (g_leq rfl rfl rfl rfl rfl) rfl ?_
      refine Ops.conv (Conv.retell (v' := .pv (.b true)) 20 rfl (by rw [decide_eq_true h3])) ?_
      refine Ops.v (g_pickT rfl rfl rfl rfl rfl) rfl ?_
      refine Ops.v (g_move rfl rfl rfl rfl) rfl ?_
      refine Ops.v (g_call rfl rfl rfl ca_160 rfl (sure_yes w)) rfl ?_
      refine Ops.nil ?_
      refine Sq.n ?_
      refine W.region ?_
      refine Ops.v (g_move rfl rfl rfl rfl) rfl ?_
      refine Ops.v (g_mul rfl rfl rfl rfl rfl) rfl ?_
      refine Ops.v (g_move rfl rfl rfl rfl) rfl ?_
      refine Ops.v (g_sub rfl rfl rfl rfl rfl) rfl ?_
      refine Ops.v (g_conv rfl rfl rfl rfl ⟨_, ui21⟩ ui_3) rfl ?_
      refine Ops.v (g_add rfl rfl rfl rfl rfl) rfl ?_
      refine Ops.v (g_assign rfl rfl rfl rfl) rfl ?_
      refine Ops.nil ?_
      refine Bl.n ?_
      exact hgood h1 h2 h3 _ (has_mk ⟨rfl, lkEq rfl (i_eq (hsum h1 h2 h3)), rfl, trivial⟩ trivial trivial rfl)
     ·have hbad := hbad (.inr (.inr h3))
      refine Ops.v (g_geq rfl rfl rfl rfl rfl) rfl ?_
      refine Ops.conv (Conv.retell (v' := .pv (.b true)) 12 rfl (by rw [decide_eq_true h1])) ?_
      refine Ops.v (g_move rfl rfl rfl rfl) rfl ?_
      refine Ops.on rfl rfl rfl ?_
      refine Ops.v (g_move rfl rfl rfl rfl) rfl ?_
      refine Ops.on rfl rfl rfl ?_
      refine Ops.v (g_leq rfl rfl rfl rfl rfl) rfl ?_
      refine Ops.conv (Conv.retell (v' := .pv (.b true)) 15 rfl (by rw [decide_eq_true h2])) ?_
      refine Ops.v (g_pickT rfl rfl rfl rfl rfl) rfl ?_
      refine Ops.v (g_move rfl rfl rfl rfl) rfl ?_
      refine Ops.on rfl rfl rfl ?_
      refine Ops.v (g_move rfl rfl rfl rfl) rfl ?_
      refine Ops.on rfl rfl rfl ?_
      refine Ops.v (g_len_s (c := { callee := .builtin .len, args := #[], argTypes := #[] }) rfl us_9 rfl rfl rfl) rfl ?_
      refine Ops.on rfl rfl rfl ?_
      refine Ops.v (g_leq rfl rfl rfl rfl rfl) rfl ?_
      refine Ops.conv (Conv.retell (v' := .pv (.b false)) 20 rfl (by rw [decide_eq_false h3])) ?_
      refine Ops.v (g_pickT rfl rfl rfl rfl rfl) rfl ?_
      refine Ops.v (g_move rfl rfl rfl rfl) rfl ?_
      refine Ops.callpan rfl rfl ca_160 rfl (sure_no w) ?_
      refine Sq.p ?_
      refine Bl.p ?_
      exact ⟨rfl, hbad⟩
    ·have hbad := hbad (.inr (.inl h2))
     refine Ops.v (g_geq rfl rfl rfl rfl rfl) rfl ?_
     refine Ops.conv (Conv.retell (v' := .pv (.b true)) 12 rfl (by rw [decide_eq_true h1])) ?_
     refine Ops.v (g_move rfl rfl rfl rfl) rfl ?_
     refine Ops.on rfl rfl rfl ?_
     refine Ops.v (g_move rfl rfl rfl rfl) rfl ?_
     refine Ops.on rfl rfl rfl ?_
     refine Ops.v (g_leq rfl rfl rfl rfl rfl) rfl ?_
     refine Ops.conv (Conv.retell (v' := .pv (.b false)) 15 rfl (by rw [decide_eq_false h2])) ?_
     refine Ops.v (g_pickT rfl rfl rfl rfl rfl) rfl ?_
     refine Ops.v (g_move rfl rfl rfl rfl) rfl ?_
     refine Ops.off2 rfl rfl rfl rfl rfl rfl ?_
     refine Ops.off2 rfl rfl rfl rfl rfl rfl ?_
     refine Ops.off2 rfl rfl rfl rfl rfl rfl ?_
     refine Ops.v (g_pickF rfl rfl rfl rfl rfl) rfl ?_
     refine Ops.v (g_move rfl rfl rfl rfl) rfl ?_
     refine Ops.callpan rfl rfl ca_160 rfl (sure_no w) ?_
     refine Sq.p ?_
     refine Bl.p ?_
     exact ⟨rfl, hbad⟩
   ·have hbad := hbad (.inl h1)
    refine Ops.v (g_geq rfl rfl rfl rfl rfl) rfl ?_
    refine Ops.conv (Conv.retell (v' := .pv (.b false)) 12 rfl (by rw [decide_eq_false h1])) ?_
    refine Ops.v (g_move rfl rfl rfl rfl) rfl ?_
    refine Ops.off2 rfl rfl rfl rfl rfl rfl ?_
    refine Ops.off2 rfl rfl rfl rfl rfl rfl ?_
    refine Ops.v (g_pickF rfl rfl rfl rfl rfl) rfl ?_
    refine Ops.v (g_move rfl rfl rfl rfl) rfl ?_
    refine Ops.off2 rfl rfl rfl rfl rfl rfl ?_
    refine Ops.off2 rfl rfl rfl rfl rfl rfl ?_
    refine Ops.off2 rfl rfl rfl rfl rfl rfl ?_
    refine Ops.v (g_pickF rfl rfl rfl rfl rfl) rfl ?_
    refine Ops.v (g_move rfl rfl rfl rfl) rfl ?_
    refine Ops.callpan rfl rfl ca_160 rfl (sure_no w) ?_
    refine Sq.p ?_
    refine Bl.p ?_
    exact ⟨rfl, hbad⟩
  ·rintro e a' w' ⟨g', F', E', hr', hx, hle, hq⟩
   cases e with
   | normal =>
    obtain ⟨h1, h2, h3, hh⟩ := hq
    obtain ⟨_, e2, q1, _, q3, q4, _⟩ := hfull h1 h2 h3
    subst e2
    obtain ⟨g3, hr4⟩ := hr'.weaken hh
    refine ⟨w.size - (pos + 1), by omega, pos + 1, g3, F', rfl, by omega, q1, fun _ => by omega, q4, q3, hr4, hit2.next ?_ hx hle⟩
    exact hr3.ok
   | panic ch =>
    obtain ⟨rfl, hb⟩ := hq
    exact ⟨g', F', E', hr', ⟨_, by rw [hr0, hb]; rfl, rfl⟩⟩
   | _ => exact hq.elim
 ·have hpe : pos = w.size := by omega
  subst hpe
  have hrun := run_nextEnd (P := Tryz.prog) w2 b w w.size 0 hit.at_ hlt
  refine wpList_val rfl rfl (by simp only [execOp, hev, Sem.run_bind]; rw [show Instr.next (.pointer (some ⟨b, 0, none⟩)) true _ = Instr.next (.pointer (some ⟨b, 0, none⟩)) true 0 from rfl, hrun, Result.andThen_ok]; rfl) ?_
  have hr2 := hr.put (d := 8) (v := .pv (.val (.tuple #[.bool false]))) (u := .tuple #[.bool false]) (by decide) (Rd.val _)
  have hev2 : (a.put (some 8) (.tuple #[.bool false])).eval (.tmp 8) = .tuple #[.bool false] := evT_val hr2 rfl
  refine wpList_val (v := .bool false) rfl rfl (by simp only [execOp, hev2]; rfl) ?_
  have hr3 := hr2.put (d := 9) (v := .pv (.b false)) (u := .bool false) (by decide) (Rd.val _)
  show Code.wp Tryz.prog (.seq _ _) _ _ _
  have htk : w.data.toList.take w.size = w.data.toList := List.take_of_length_le (by simp)
  rw [htk] at hall hd0 hd1 hr3
  refine wp_mono (W.app (X := ⟨Tryz.prog, w0, F0, 41⟩) (Q := fun e E' => e = .exit 0 ∧ E'.has (⟨[(0, .pv (.s w)), (3, .pv (.i (digs w.data.toList)))], [], []⟩ : Env)) ?_ hr3) ?_
  ·refine W.seq ?_
   refine W.cond (b := false) rfl (fun hc => absurd hc (by decide)) (fun hc => ?_)
   refine W.exit ?_
   refine Sq.e ?_
   exact ⟨rfl, has_mk ⟨rfl, rfl, trivial⟩ trivial trivial rfl⟩
  ·rintro e a' w' ⟨g', F', E', hr', rfl, hh⟩
   refine ⟨g', F', E', hr', ?_⟩
   refine Sq.n (W.weaken hh ?_)
   clear hrun hr2 hr3 hev2 hit hr hev hr' hh
   have hbnd : digs w.data.toList < 10000 := by
    rcases Nat.eq_zero_or_pos w.size with h | h
    ·rw [h] at hd1; omega
    ·have h4 := h4 h
     have : w.size = 1 ∨ w.size = 2 ∨ w.size = 3 ∨ w.size = 4 := by omega
     rcases this with h | h | h | h <;> rw [h] at hd1 <;> omega
   refine W.seq ?_
   refine W.region ?_
   refine Ops.v (g_move rfl rfl rfl rfl) rfl ?_
   refine Ops.v (g_sneq rfl rfl rfl rfl rfl) rfl ?_
   by_cases he : w = ⟨#[]⟩
   ·have hbad : goodNum w = false := by simp [goodNum, he]
    refine Ops.conv (Conv.retell (v' := .pv (.b false)) 31 rfl (by rw [decide_eq_true (show w = ByteArray.mk #[] from he)]; rfl)) ?_
    refine Ops.v (g_move rfl rfl rfl rfl) rfl ?_
    refine Ops.off2 rfl rfl rfl rfl rfl rfl ?_
    refine Ops.off2 rfl rfl rfl rfl rfl rfl ?_
    refine Ops.off2 rfl rfl rfl rfl rfl rfl ?_
    refine Ops.off2 rfl rfl rfl rfl rfl rfl ?_
    refine Ops.v (g_pickF rfl rfl rfl rfl rfl) rfl ?_
    refine Ops.v (g_move rfl rfl rfl rfl) rfl ?_
    refine Ops.callpan rfl rfl ca_160 rfl (sure_no w) ?_
    refine Sq.p ?_
    exact ⟨_, by rw [hr0, hbad]; rfl, rfl⟩
   ·have hpos : 0 < w.size := by
     rcases Nat.eq_zero_or_pos w.size with h | h
     ·exfalso; apply he
      have : w.data.size = 0 := h
      cases w with
      | mk d => congr 1; exact Array.eq_empty_of_size_eq_zero this
     ·exact h
    refine Ops.conv (Conv.retell (v' := .pv (.b true)) 31 rfl (by rw [decide_eq_false (show ¬ w = ByteArray.mk #[] from he)]; rfl)) ?_
    refine Ops.v (g_move rfl rfl rfl rfl) rfl ?_
    refine Ops.on rfl rfl rfl ?_
    refine Ops.v (g_move rfl rfl rfl rfl) rfl ?_
    refine Ops.on rfl rfl rfl ?_
    refine Ops.v (g_call rfl rfl rfl ca_156 rfl (c_156 0 _ (r := ⟨(Lib.itoa (digs w.data.toList)).toArray⟩) (by simp only [s_156]; rw [decide_eq_true (show (-9223372036854775808 : Int) ≤ _ by omega), decide_eq_true (show _ ≤ (9223372036854775807 : Int) by omega)]; rfl))) rfl ?_
    refine Ops.on rfl rfl rfl ?_
    refine Ops.v (g_move rfl rfl rfl rfl) rfl ?_
    refine Ops.on rfl rfl rfl ?_
    refine Ops.v (g_seq rfl rfl rfl rfl rfl) rfl ?_
    refine Ops.v (g_pickT rfl rfl rfl rfl rfl) rfl ?_
    refine Ops.v (g_move rfl rfl rfl rfl) rfl ?_
    have h4 := h4 hpos
    by_cases hi : (⟨(Lib.itoa (digs w.data.toList)).toArray⟩ : ByteArray) = w
    ·have hok : goodNum w = true := by simp [goodNum, he, hi, h4]; simpa using hall
     refine Ops.conv (Conv.retell (v' := .pv (.b true)) 37 rfl (by rw [decide_eq_true hi])) ?_
     refine Ops.v (g_call rfl rfl rfl ca_160 rfl (sure_yes w)) rfl ?_
     refine Ops.nil ?_
     refine Sq.n ?_
     refine W.seq ?_
     refine W.region ?_
     refine Ops.v (g_move rfl rfl rfl rfl) rfl ?_
     refine Ops.v (g_assign rfl rfl rfl rfl) rfl ?_
     refine Ops.nil ?_
     refine Sq.n ?_
     refine W.ret ?_
     exact Fin.r rfl (.cons (.tmp _ _ rfl) .nil) (by rw [hr0, hok]; rfl)
    ·have hbad : goodNum w = false := by simp [goodNum, he, hi]
     refine Ops.conv (Conv.retell (v' := .pv (.b false)) 37 rfl (by rw [decide_eq_false hi])) ?_
     refine Ops.callpan rfl rfl ca_160 rfl (sure_no w) ?_
     refine Sq.p ?_
     exact ⟨_, by rw [hr0, hbad]; rfl, rfl⟩
end Go.Proofs.YtohmhlkdgfcaeaaGreatDoor
namespace Go.Proofs.YtohmhlkdgfcaeaaGreatDoor
open Go Go.RowKit
set_option maxRecDepth 4000
attribute [local irreducible] W Ops GS GSG
def s_161_l1 (n : Nat) (v0 : ByteArray) (v1 : (List ByteArray)) (v101 : (List ByteArray)) : Nat → Int → (List Int) → Option (Except Value ((List Int)))
| 0, _, _ => none
| k1 + 1, v122, v123 => bif (decide (v122 < (v101.length : Int))) then ( (ix v101 v122).bind fun v132 => (ix v1 v122).bind fun v133 => bif (!decide (v133 = (ByteArray.mk #[]))) then ( (ix v1 v122).bind fun v134 => (s_160 n (decide (v132 = v134)) v0).bind fun v135 => Except.casesOn (motive := fun _ => Option (Except Value ((List Int)))) v135 (fun p => some (.error p)) (fun v136 =>
 (s_161_l1 n v0 v1 v101 k1) (wr (v122 + 1)) v123 ) ) else ( (s_181 n v132).bind fun v137 => Except.casesOn (motive := fun _ => Option (Except Value ((List Int)))) v137 (fun p => some (.error p)) (fun v138 => (app v123 ([v138])).bind fun v139 => (s_161_l1 n v0 v1 v101 k1) (wr (v122 + 1)) v139 ) ) ) else ( some (.ok v123) )
def s_161 (n : Nat) (v0 : ByteArray) (v1 : (List ByteArray)) : Option (Except Value ((List Int))) := (s_159 n v0 (ByteArray.mk #[32])).bind fun v101 => (s_160 n (decide ((v101.length : Int) = (v1.length : Int))) v0).bind fun v102 => Except.casesOn (motive := fun _ => Option (Except Value ((List Int)))) v102 (fun p => some (.error p)) (fun v103 =>
 s_161_l1 n v0 v1 v101 n 0 [] )
theorem c_161 (n : Nat) (v0 : ByteArray) (v1 : (List ByteArray)) {r : (Except Value ((List Int)))} (h : s_161 n v0 v1 = some r) :
  Fun Tryz.prog 161 [.s v0, .sl (v1.map eS)] (rs (fun r => .sl (r.map eI)) r) := by
 unfold s_161 at h
 refine enterW 47 Tryz.func161 q q q ?_
 intro w0 F0
 change W _ _ (Ev [(0, .pv (.s v0)), (1, .pv (.sl (List.map eS v1)))]) _
 refine W.seq<|W.region<|va q q q q q<|on0<|Sq.n<|W.seq<|W.region<|vm q q q q q ?_
 obtain ⟨v101, e101, h⟩ := bind_some h
 refine ov (g_call q q q ca_159 q (c_159 _ _ _ e101)) q<|va q q q q q<|on0<|Sq.n<|W.seq<|W.region<|vm q q q q q<|ov (g_lenM (l := v101) (enc := eS) q ul_141 q q q) q<|vm q q q q q<|ov (g_lenM (l := v1) (enc := eS) q ul_141 q q q) q<|ov (g_eql q q q q q) q<|vm q q q q q ?_
 obtain ⟨v102, e102, h⟩ := bind_some h
 rcases v102 with p | v103
 ·obtain rfl := Option.some.inj h
  exact Ops.callpan q q ca_160 q (c_160 _ _ _ e102)<|Sq.p<|Fin.p q
 ·refine ov (g_call q q q ca_160 q (c_160 _ _ _ e102)) q<|on0<|Sq.n<|W.seq<|W.region<|va q q q q q<|on0<|Sq.n<|W.seq<|W.seq<|W.region<|vm q q q q q<|ov (g_lenM (l := v101) (enc := eS) q ul_141 q q q) q<|vm q q q q q<|on0<|Sq.n<|W.block<|W.conv (Conv.nilrow 6 44 3 1 q q)<|W.loop (σ := Nat × Int × (List Int)) (fun s => (⟨[(0, .pv (.s v0)), (1, .pv (.sl (List.map eS v1))), (6, .row 44), (19, .pv (.sl (List.map eS v101))), (20, .pv (.val (.int .i64 (v101.length : Int)))), (21, .pv (.i s.2.1))], [], [(44, ⟨3, 1, List.map eI s.2.2⟩)]⟩ : Env)) (fun s => s_161_l1 n v0 v1 v101 s.1 s.2.1 s.2.2 = some r) (fun s => s.1) (n, 0, []) h (has_mk ⟨q, q, q, q, q, q, trivial⟩ trivial ⟨q, trivial⟩ q) ?_
  rintro ⟨k1, v122, v123⟩ h
  change s_161_l1 n v0 v1 v101 k1 v122 v123 = some r at h
  rcases k1 with _ | k1
  ·rw [s_161_l1] at h
   cases h
  ·rw [s_161_l1] at h
   change W _ _ (⟨[(0, .pv (.s v0)), (1, .pv (.sl (List.map eS v1))), (6, .row 44), (19, .pv (.sl (List.map eS v101))), (20, .pv (.val (.int .i64 (v101.length : Int)))), (21, .pv (.i v122))], [], [(44, ⟨3, 1, List.map eI v123⟩)]⟩ : Env) _
   refine W.seq<|W.region<|ov (g_lss q q q q q) q<|on0<|Sq.n<|W.seq<|W.cond (b := (decide (v122 < (v101.length : Int)))) q (fun hc => ?_) (fun hc => ?_)
   ·have h := bif_t h hc
    refine W.skip<|Sq.n<|W.seq<|W.block<|W.seq<|W.region<|vm q q q q q ?_
    obtain ⟨v132, e132, h⟩ := bind_some h
    refine ov (g_idxI (l := v101) (enc := eS) e132 q q q q q el_141 q) q<|ov (g_loadR1 q q q q q ag_9) q<|va q q q q q<|va q q q q q<|on0<|Sq.n<|W.seq<|W.seq<|W.region<|vm q q q q q<|vm q q q q q ?_
    obtain ⟨v133, e133, h⟩ := bind_some h
    refine ov (g_idxI (l := v1) (enc := eS) e133 q q q q q el_141 q) q<|ov (g_loadR1 q q q q q ag_9) q<|ov (g_sneq q q q q q) q<|on0<|Sq.n<|W.cond (b := (!decide (v133 = (ByteArray.mk #[])))) q (fun hc => ?_) (fun hc => ?_)
    ·have h := bif_t h hc
     refine W.seq<|W.region<|vm q q q q q<|vm q q q q q<|vm q q q q q ?_
     obtain ⟨v134, e134, h⟩ := bind_some h
     refine ov (g_idxI (l := v1) (enc := eS) e134 q q q q q el_141 q) q<|ov (g_loadR1 q q q q q ag_9) q<|ov (g_seq q q q q q) q<|vm q q q q q ?_
     obtain ⟨v135, e135, h⟩ := bind_some h
     rcases v135 with p | v136
     ·obtain rfl := Option.some.inj h
      exact Ops.callpan q q ca_160 q (c_160 _ _ _ e135)<|Sq.p<|Sq.p<|Bl.p<|Sq.p<|Sq.p<|Bl.p<|Sq.p<|Fin.p q
     ·exact ov (g_call q q q ca_160 q (c_160 _ _ _ e135)) q<|on0<|Sq.n<|W.exit<|Sq.e<|Bl.e<|Sq.n<|W.region<|ov (g_add q q q q q) q<|vm q q q q q<|on0<|Sq.n<|⟨(k1, wr (v122 + 1), v123), h, Nat.lt_succ_self _, has_mk ⟨q, q, q, q, q, q, trivial⟩ trivial ⟨q, trivial⟩ q⟩
    ·have h := bif_f h hc
     refine W.skip<|Sq.n<|W.seq<|W.region<|vm q q q q q ?_
     obtain ⟨v137, e137, h⟩ := bind_some h
     rcases v137 with p | v138
     ·obtain rfl := Option.some.inj h
      exact Ops.callpan q q ca_181 q (c_181 _ _ e137)<|Sq.p<|Bl.p<|Sq.p<|Sq.p<|Bl.p<|Sq.p<|Fin.p q
     ·refine ov (g_call q q q ca_181 q (c_181 _ _ e137)) q<|va q q q q q<|on0<|Sq.n<|W.region<|vm q q q q q<|vm q q q q q<|Ops.r (g_buildSlice (cs := [.val (.int .i64 v138)]) (es := List.map eI [v138]) q q q el_23 ⟨_, zr_3⟩ q q q q q q) q q ?_
      obtain ⟨v139, e139, h⟩ := bind_some h
      exact Ops.step q (s_appendR (enc := eI) e139 q q q q q q q q ex_23 (fun _ => q))<|va q q q q q<|on0<|Bl.n<|Sq.n<|W.region<|ov (g_add q q q q q) q<|vm q q q q q<|on0<|Sq.n<|⟨(k1, wr (v122 + 1), v139), h, Nat.lt_succ_self _, has_mk ⟨q, q, q, q, q, q, trivial⟩ trivial ⟨q, trivial⟩ q⟩
   ·have h := bif_f h hc
    refine W.exit<|Sq.e<|Sq.e<|Bl.e<|Sq.n<|W.seq<|W.region<|vm q q q q q<|va q q q q q<|on0<|Sq.n<|W.share (k := 44) q<|W.ret ?_
    obtain rfl := Option.some.inj h
    exact Fin.r q (.cons (.tmp _ _ q) .nil) q
def s_128_l1 (v0 : (List Int)) : Nat → Int → Int → Option (Int)
| 0, _, _ => none
| k1 + 1, v103, v104 => bif (decide (v104 < (v0.length : Int))) then ( (ix v0 v104).bind fun v106 => (s_128_l1 v0 k1) (max v103 v106) (wr (v104 + 1)) ) else ( some (v103) )
def s_128 (n : Nat) (v0 : (List Int)) : Option (Int) := bif (decide ((v0.length : Int) < 1)) then ( none ) else ( (ix v0 0).bind fun v101 => s_128_l1 v0 n v101 1 )
theorem c_128 (n : Nat) (v0 : (List Int)) {r : (Int)} (h : s_128 n v0 = some r) :
  Fun Tryz.prog 128 [.sl (v0.map eI)] (.ret (.val (.int .i64 r))) := by
 unfold s_128 at h
 refine enterW 25 Tryz.func128 q q q ?_
 intro w0 F0
 change W _ _ (Ev [(0, .pv (.sl (List.map eI v0)))]) _
 refine W.seq<|W.region<|va q q q q q<|on0<|Sq.n<|W.seq<|W.seq<|W.region<|vm q q q q q<|ov (g_lenM (l := v0) (enc := eI) q ul_23 q q q) q<|ov (g_lss q q q q q) q<|on0<|Sq.n<|W.cond (b := (decide ((v0.length : Int) < 1))) q (fun hc => ?_) (fun hc => ?_)
 ·have h := bif_t h hc
  refine W.region ?_
  cases h
 ·have h := bif_f h hc
  refine W.skip<|Sq.n<|W.seq<|W.region<|vm q q q q q ?_
  obtain ⟨v101, e101, h⟩ := bind_some h
  refine ov (g_idxI (l := v0) (enc := eI) e101 q q q q q el_23 q) q<|ov (g_loadR1 q q q q q ag_3) q<|va q q q q q<|on0<|Sq.n<|W.seq<|W.seq<|W.region<|va q q q q q<|on0<|Sq.n<|W.block<|W.loop (σ := Nat × Int × Int) (fun s => (Ev [(0, .pv (.sl (List.map eI v0))), (3, .pv (.i s.2.1)), (4, .pv (.i s.2.2))])) (fun s => s_128_l1 v0 s.1 s.2.1 s.2.2 = some r) (fun s => s.1) (n, v101, 1) h (has_mk ⟨q, q, q, trivial⟩ trivial trivial q) ?_
  rintro ⟨k1, v103, v104⟩ h
  change s_128_l1 v0 k1 v103 v104 = some r at h
  rcases k1 with _ | k1
  ·rw [s_128_l1] at h
   cases h
  ·rw [s_128_l1] at h
   change W _ _ (Ev [(0, .pv (.sl (List.map eI v0))), (3, .pv (.i v103)), (4, .pv (.i v104))]) _
   refine W.seq<|W.seq<|W.region<|vm q q q q q<|vm q q q q q<|ov (g_lenM (l := v0) (enc := eI) q ul_23 q q q) q<|ov (g_lss q q q q q) q<|on0<|Sq.n<|W.cond (b := (decide (v104 < (v0.length : Int)))) q (fun hc => ?_) (fun hc => ?_)
   ·have h := bif_t h hc
    refine W.skip<|Sq.n<|W.seq<|W.block<|W.region<|vm q q q q q<|vm q q q q q<|vm q q q q q ?_
    obtain ⟨v106, e106, h⟩ := bind_some h
    exact ov (g_idxI (l := v0) (enc := eI) e106 q q q q q el_23 q) q<|ov (g_loadR1 q q q q q ag_3) q<|ov (g_max q q q q q) q<|va q q q q q<|on0<|Bl.n<|Sq.n<|W.region<|vm q q q q q<|ov (g_add q q q q q) q<|va q q q q q<|on0<|Sq.n<|⟨(k1, max v103 v106, wr (v104 + 1)), h, Nat.lt_succ_self _, has_mk ⟨q, q, q, trivial⟩ trivial trivial q⟩
   ·have h := bif_f h hc
    refine W.exit<|Sq.e<|Sq.e<|Bl.e<|Sq.n<|W.seq<|W.region<|vm q q q q q<|va q q q q q<|on0<|Sq.n<|W.ret ?_
    obtain rfl := Option.some.inj h
    exact Fin.r q (.cons (.tmp _ _ q) .nil) q
def s_130 (n : Nat) (v0 : (List Int)) (v1 : (List Int)) (f2 : ((List Int) → Option (Int))) : Option (Bool) := (f2 v0).bind fun v101 => (f2 v1).bind fun v102 => some ((decide (v101 < v102)))
theorem c_130 (n : Nat) (v0 : (List Int)) (v1 : (List Int)) (f2 : ((List Int) → Option (Int))) {fidf2 : Nat} {firstf2 capsf2 : List PV} (hcf2 : Callable Tryz.prog fidf2) (hgf2 : ∀ x0 y, f2 x0 = some y → Fun Tryz.prog fidf2 (firstf2 ++ [.sl (x0.map eI)] ++ capsf2) (.ret (.val (.int .i64 y)))) {r : (Bool)} (h : s_130 n v0 v1 f2 = some r) :
  Fun Tryz.prog 130 [.sl (v0.map eI), .sl (v1.map eI), .ref [.fn fidf2 firstf2 capsf2]] (.ret (.b r)) := by
 unfold s_130 at h
 refine enterW 13 Tryz.func130 q q q ?_
 intro w0 F0
 change W _ _ (Ev [(0, .pv (.sl (List.map eI v0))), (1, .pv (.sl (List.map eI v1))), (2, .pv (.ref [.fn fidf2 firstf2 capsf2]))]) _
 refine W.seq<|W.region<|va q q q q q<|on0<|Sq.n<|W.seq ?_
 obtain ⟨v101, e101, h⟩ := bind_some h
 refine W.draw (m := 5) Checked.mixed (Pre.v (GSG.of q (g_loadR1 q q q q q ag_87)) ((Pre.v (GSG.of q (g_move q q q q)) ((Pre.v (GSG.of q (g_callv q q q q hcf2 q (hgf2 _ _ e101))) ((Pre.v (GSG.of q (g_loadR1 q q q q q ag_87)) ((Pre.v (GSG.of q (g_move q q q q)) (Pre.nil _)))))))))) (by kernel_rfl) ?_
 obtain ⟨v102, e102, h⟩ := bind_some h
 refine ov (g_callv q q q q hcf2 q (hgf2 _ _ e102)) q<|ov (g_lss q q q q q) q<|va q q q q q<|on0<|Sq.n<|W.ret ?_
 obtain rfl := Option.some.inj h
 exact Fin.r q (.cons (.tmp _ _ q) .nil) q
def s_188 (n : Nat) (v0 : Int) (v1 : Span) (v2 : Span) : Option (Except Value (Span)) := bif (decide ((min v1.high v2.high) < (max v1.low v2.low))) then ( some (.error (.iface 175 (.agg #[.int .i64 v0]))) ) else ( some (.ok (Span.mk (max v1.low v2.low) (min v1.high v2.high))) )
theorem c_188 (n : Nat) (v0 : Int) (v1 : Span) (v2 : Span) {r : (Except Value (Span))} (h : s_188 n v0 v1 v2 = some r) :
  Fun Tryz.prog 188 [.val (.int .i64 v0), .agg (cSpan v1), .agg (cSpan v2)] (rs (fun r => .agg (cSpan r)) r) := by
 unfold s_188 at h
 refine enterW 28 Tryz.func188 q q q ?_
 intro w0 F0
 change W _ _ (Ev [(0, .pv (.i v0)), (1, .pv (.agg (cSpan v1))), (2, .pv (.agg (cSpan v2)))]) _
 refine W.seq<|W.region<|ob (g_box q q q q q) q q<|ob (g_box q q q q q) q q<|ob (g_alloc q q q zr_57) q q<|on0<|Sq.n<|W.seq<|W.region<|ov (g_fld q q q q fl_57_0) q<|ov (g_load1 q q q q q q ag_3) q<|ov (g_fld q q q q fl_57_0) q<|ov (g_load1 q q q q q q ag_3) q<|ov (g_max q q q q q) q<|ov (g_fld q q q q fl_57_1) q<|ov (g_load1 q q q q q q ag_3) q<|ov (g_fld q q q q fl_57_1) q<|ov (g_load1 q q q q q q ag_3) q<|ov (g_min q q q q q) q<|ov (g_build (cs := (cSpan (Span.mk (max v1.low v2.low) (min v1.high v2.high)))) q q q zr_57 st_57 q q) q<|ob (g_alloc q q q zr_57) q q<|Ops.step q (s_storeB q q q q q q sz_57 q q)<|on0<|Sq.n<|W.seq<|W.seq<|W.region<|ov (g_fld q q q q fl_57_0) q<|ov (g_load1 q q q q q q ag_3) q<|ov (g_fld q q q q fl_57_1) q<|ov (g_load1 q q q q q q ag_3) q<|ov (g_gtr q q q q q) q<|on0<|Sq.n<|W.cond (b := (decide ((min v1.high v2.high) < (max v1.low v2.low)))) q (fun hc => ?_) (fun hc => ?_)
 ·have h := bif_t h hc
  refine W.region<|vm q q q q q<|ov (g_build (cs := [.val (.int .i64 v0)]) q q q zr_175 st_175 q q) q<|ov (g_mkI (vs := [.int .i64 v0]) q q q q q ag_175) q ?_
  obtain rfl := Option.some.inj h
  exact Ops.panic q q q<|Sq.p<|Fin.p q
 ·have h := bif_f h hc
  refine W.skip<|Sq.n<|W.seq<|W.region<|ov (g_loadA q q q q q ag_57 sz_57 q q) q<|Ops.step q (s_storeB q q q q q q sz_57 q q)<|on0<|Sq.n<|W.ret ?_
  obtain rfl := Option.some.inj h
  exact Fin.r q (.cons (.agg _ _ _ _ (cSpan (Span.mk (max v1.low v2.low) (min v1.high v2.high))) q q ag_57 sz_57) .nil) q
end Go.Proofs.YtohmhlkdgfcaeaaGreatDoor
namespace Go.Proofs.YtohmhlkdgfcaeaaGreatDoor
open Go Go.RowKit
set_option maxRecDepth 4000
attribute [local irreducible] W Ops GS GSG
theorem c_194 (x y : Int) (hx : 0 ≤ x ∧ x < 18446744073709551616) (hy : 0 ≤ y ∧ y < 18446744073709551616) (hxy : x * y < 18446744073709551616) : Fun Tryz.prog 194 [.val (.int .u64 x), .val (.int .u64 y)] (.ret (.tup [.val (.int .u64 0), .val (.int .u64 (x * y))])) := by
 refine fun_of_calls (vals := [.int .u64 x, .int .u64 y]) rfl (fun w F hok => ?_)
 obtain ⟨a, rfl⟩ := Int.eq_ofNat_of_zero_le hx.1
 obtain ⟨b, rfl⟩ := Int.eq_ofNat_of_zero_le hy.1
 have hab : a * b < 18446744073709551616 := by
  have h1 : ((a * b : Nat) : Int) < 18446744073709551616 := by rw [Int.natCast_mul]; exact hxy
  omega
 refine (Tryz.bits_Mul a b (by omega) (by omega) w).mono ?_
 rintro e w' ⟨rfl, rfl⟩
 rw [Nat.div_eq_of_lt hab, Nat.mod_eq_of_lt hab]
 refine ⟨⟨_, rfl, fun _ _ => Rd.tup _ _ rfl ?_⟩, Below.refl _ _⟩
 intro j c u hc hu
 match j with
 | 0 => simp at hc hu; subst hc hu; exact .val _
 | 1 => simp at hc hu; subst hc hu; exact .val _
 | j + 2 => simp at hc
theorem zs_of {P : Program} {e sz bytes : Nat} {zs : List Value} (h : (P.info? e).bind (fun i => i.zero.map fun z => (z.cells, i.size, i.bytes)) = some (zs.toArray, sz, bytes)) : ∃ i z, P.info? e = some i ∧ i.zero = some z ∧ z.cells = zs.toArray ∧ i.size = sz ∧ i.bytes = bytes := by
 obtain ⟨i, h1, h2⟩ := Option.bind_eq_some_iff.1 h
 obtain ⟨z, h3, h4⟩ := Option.map_eq_some_iff.1 h2
 simp only [Prod.mk.injEq] at h4
 exact ⟨i, z, h1, h3, h4.1, h4.2.1, h4.2.2⟩
theorem zs_57 : ∃ i z, Tryz.prog.info? 57 = some i ∧ i.zero = some z ∧ z.cells = [Value.int .i64 0, Value.int .i64 0].toArray ∧ i.size = 2 ∧ i.bytes = 16 := zs_of (by kernel_rfl)
def rep (N k : Nat) (s : Span) : List Span := List.replicate k s ++ List.replicate (N - k) ⟨0, 0⟩
theorem rep_length {N k : Nat} {s : Span} (h : k ≤ N) : (rep N k s).length = N := by simp [rep]; omega
theorem rep_step {N k m : Nat} {s : Span} (hk : k ≤ N) (hm : m = Nat.min k (N - k)) : (rep N k s).take k ++ ((rep N k s).drop 0).take m ++ (rep N k s).drop (k + m) = rep N (k + m) s := by
 have h1 : m ≤ k := by rw [hm]; exact Nat.min_le_left _ _
 have h3 : Nat.min k (N - k) ≤ N - k := Nat.min_le_right _ _
 have h2 : k + m ≤ N := by omega
 apply List.ext_getElem?
 intro j
 simp only [rep, List.drop_zero, List.take_append, List.drop_append, List.length_replicate, List.take_replicate, List.drop_replicate, Nat.sub_self, Nat.min_self]
 have e1 : min m k = m := Nat.min_eq_left h1
 have e2 : k - (k + m) = 0 := by omega
 have e3 : m - k = 0 := by omega
 have e4 : k + m - k = m := by omega
 have e5 : N - k - m = N - (k + m) := by omega
 simp only [Nat.sub_zero, e1, e2, e3, e4, e5, Nat.zero_min, List.replicate_zero, List.append_nil, List.nil_append, ← List.replicate_append_replicate]
def s_187 (n : Nat) (x : List Span) (count : Int) : Option (List Span) := match x with
 | [s] => bif decide (1 ≤ count) && decide (count ≤ 12) then some (List.replicate count.toNat s) else none
 | _ => none
theorem c_187 (n : Nat) (x : List Span) (count : Int) {r : List Span} (h : s_187 n x count = some r) : FunOwn Tryz.prog 187 [.sl (x.map cSpan), .val (.int .i64 count)] 57 2 (r.map cSpan) := by
 obtain ⟨s, N, rfl, rfl, hc1, hc2, rfl⟩ : ∃ (s : Span) (N : Nat), x = [s] ∧ count = (N : Int) ∧ 1 ≤ N ∧ N ≤ 12 ∧ r = List.replicate N s := by
  unfold s_187 at h
  split at h
  ·rename_i s
   obtain ⟨h1, h2⟩ := bif_some h
   cases h2
   simp only [Bool.and_eq_true, decide_eq_true_eq] at h1
   exact ⟨s, count.toNat, rfl, by omega, by omega, by omega, rfl⟩
  ·cases h
 refine own_of_W 48 Tryz.func187 rfl rfl rfl ?_
 intro w0 F0
 change W _ _ (⟨[(0, .pv (.sl (List.map cSpan [s]))), (1, .pv (.val (.int .i64 ((N : Nat) : Int))))], [], []⟩ : Env) _
 refine W.seq ?_
 refine W.region ?_
 refine Ops.v (g_assign rfl rfl rfl rfl) rfl ?_
 refine Ops.nil ?_
 refine Sq.n ?_
 refine W.seq ?_
 refine W.seq ?_
 refine W.region ?_
 refine Ops.v (g_move rfl rfl rfl rfl) rfl ?_
 refine Ops.v (g_lss rfl rfl rfl rfl rfl) rfl ?_
 refine Ops.nil ?_
 refine Sq.n ?_
 refine W.cond (b := (decide (((N : Nat) : Int) < 0))) rfl (fun hc => ?_) (fun hc => ?_)
 ·exfalso; simp at hc; omega
 refine W.skip ?_
 refine Sq.n ?_
 refine W.seq ?_
 refine W.region ?_
 refine Ops.v (g_move rfl rfl rfl rfl) rfl ?_
 refine Ops.v (g_lenM (l := [s]) (enc := cSpan) rfl ul_30 rfl rfl rfl) rfl ?_
 refine Ops.v (g_conv rfl rfl rfl rfl ⟨_, ui_3⟩ ui_98) rfl ?_
 refine Ops.v (g_move rfl rfl rfl rfl) rfl ?_
 refine Ops.v (g_conv rfl rfl rfl rfl ⟨_, ui_3⟩ ui_98) rfl ?_
 refine Ops.conv (Conv.retell (v' := .pv (.val (.int .u64 1))) 15 rfl rfl) ?_
 refine Ops.conv (Conv.retell (v' := .pv (.val (.int .u64 ((N : Nat) : Int)))) 17 rfl (by rw [show IntKind.u64.wrap ((N : Nat) : Int) = N by rw [IntKind.wrap_u64]; omega])) ?_
 refine Ops.v (g_call rfl rfl rfl ca_194 rfl (c_194 _ _ (by omega) (by omega) (by omega))) rfl ?_
 refine Ops.v (g_move rfl rfl rfl rfl) rfl ?_
 refine Ops.v (g_extract rfl rfl rfl rfl rfl) rfl ?_
 refine Ops.v (g_extract rfl rfl rfl rfl rfl) rfl ?_
 refine Ops.v (g_assign rfl rfl rfl rfl) rfl ?_
 refine Ops.v (g_assign rfl rfl rfl rfl) rfl ?_
 refine Ops.conv (Conv.retell (v' := .pv (.val (.int .u64 ((N : Nat) : Int)))) 6 rfl (by rw [Int.one_mul])) ?_
 refine Ops.nil ?_
 refine Sq.n ?_
 refine W.seq ?_
 refine W.seq ?_
 refine W.region ?_
 refine Ops.v (g_move rfl rfl rfl rfl) rfl ?_
 refine Ops.v (g_gtr rfl rfl rfl rfl rfl) rfl ?_
 refine Ops.v (g_move rfl rfl rfl rfl) rfl ?_
 refine Ops.conv (Conv.retell (v' := .pv (.b false)) 23 rfl rfl) ?_
 refine Ops.on rfl rfl rfl ?_
 refine Ops.v (g_move rfl rfl rfl rfl) rfl ?_
 refine Ops.on rfl rfl rfl ?_
 refine Ops.v (g_gtr rfl rfl rfl rfl rfl) rfl ?_
 refine Ops.v (g_pickF rfl rfl rfl rfl rfl) rfl ?_
 refine Ops.nil ?_
 refine Sq.n ?_
 refine W.cond (b := (decide ((9223372036854775807 : Int) < ((N : Nat) : Int)))) rfl (fun hc => ?_) (fun hc => ?_)
 ·exfalso; simp at hc; omega
 refine W.skip ?_
 refine Sq.n ?_
 refine W.seq ?_
 refine W.region ?_
 refine Ops.v (g_move rfl rfl rfl rfl) rfl ?_
 refine Ops.v (g_conv rfl rfl rfl rfl ⟨_, ui_98⟩ ui_3) rfl ?_
 refine Ops.conv (Conv.retell (v' := .pv (.i ((N : Nat) : Int))) 29 rfl (by rw [show IntKind.i64.wrap ((N : Nat) : Int) = N by rw [IntKind.wrap_i64]; omega])) ?_
 refine Ops.r (g_makeZ (zs := [.int .i64 0, .int .i64 0]) rfl rfl rfl rfl rfl ul_30 zs_57 rfl rfl rfl (by omega) (by omega)) rfl rfl ?_
 refine Ops.v (g_assign rfl rfl rfl rfl) rfl ?_
 refine Ops.nil ?_
 refine Sq.n ?_
 refine W.seq ?_
 refine W.region ?_
 refine Ops.v (g_move rfl rfl rfl rfl) rfl ?_
 refine Ops.v (g_move rfl rfl rfl rfl) rfl ?_
 refine Ops.step rfl (s_copyH (l := List.replicate N (⟨0, 0⟩ : Span)) (l2 := [s]) (enc := cSpan) (T := 57) (sz := 2) rfl rfl rfl rfl (congrArg (fun es => some (⟨57, 2, es⟩ : RowS)) (by simp)) rfl el_30 (fun _ => rfl) (fun _ => rfl) (by simp) (by simpa using hc1)) ?_
 refine Ops.v (g_assign rfl rfl rfl rfl) rfl ?_
 refine Ops.nil ?_
 refine Sq.n ?_
 refine W.seq ?_
 refine W.block ?_
 refine W.loop (σ := Nat) (fun k => (⟨[(7, .row 30), (8, .pv (.i ((k : Nat) : Int)))], [], [(30, ⟨57, 2, (rep N k s).map cSpan⟩)]⟩ : Env)) (fun k => 1 ≤ k ∧ k ≤ N) (fun k => N - k) 1 ⟨Nat.le_refl _, hc1⟩ (has_mk ⟨rfl, rfl, trivial⟩ trivial ⟨lkEq rfl (row_eq (by simp [rep])), trivial⟩ rfl) ?_
 rintro k ⟨hk1, hk2⟩
 refine W.seq ?_
 refine W.seq ?_
 refine W.region ?_
 refine Ops.v (g_move rfl rfl rfl rfl) rfl ?_
 refine Ops.v (g_move rfl rfl rfl rfl) rfl ?_
 refine Ops.v (g_lenRM (l := rep N k s) (enc := cSpan) rfl ul_30 rfl rfl rfl rfl) rfl ?_
 refine Ops.v (g_lss rfl rfl rfl rfl rfl) rfl ?_
 refine Ops.nil ?_
 refine Sq.n ?_
 refine W.cond (b := (decide (((k : Nat) : Int) < (((rep N k s).length : Nat) : Int)))) rfl (fun hc => ?_) (fun hc => ?_)
 ·have hkN : k < N := by rw [rep_length hk2] at hc; simpa using hc
  refine W.skip ?_
  refine Sq.n ?_
  refine W.block ?_
  refine W.drawR (m := 8) Checked.mixed (PreR.v (GSQ.of (GSG.of rfl (g_move rfl rfl rfl rfl))) (PreR.v (GSQ.of (GSG.of rfl (g_move rfl rfl rfl rfl))) (PreR.v (GSQ.of (GSG.of rfl (g_move rfl rfl rfl rfl)))
   (PreR.v (GSQ.of (GSG.of rfl (g_part (R := ⟨57, 2, (rep N k s).map cSpan⟩) (l := ((k : Nat) : Int)) (h := (((rep N k s).map cSpan).length : Nat)) rfl rfl rfl rfl rfl el_30 rfl rfl (by rw [List.length_map, rep_length hk2]; omega))))
   (PreR.v (GSQ.of (GSG.of rfl (g_move rfl rfl rfl rfl))) (PreR.v (GSQ.of (GSG.of rfl (g_move rfl rfl rfl rfl)))
   (PreR.v (GSQ.of (GSG.of rfl (g_part (R := ⟨57, 2, (rep N k s).map cSpan⟩) (l := 0) (h := ((k : Nat) : Int)) rfl rfl rfl rfl rfl el_30 rfl rfl (by rw [List.length_map, rep_length hk2]; omega))))
   (PreR.cP (i := ((k : Nat) : Int).toNat) (j := (0 : Int).toNat) (n := (((((rep N k s).map cSpan).length : Nat) : Int)).toNat - ((k : Nat) : Int).toNat) (m := ((k : Nat) : Int).toNat - (0 : Int).toNat) (l := rep N k s) (enc := cSpan) (sz := 2) rfl rfl rfl rfl rfl rfl rfl el_30 (fun _ => rfl) (by simp only [List.length_map, rep_length hk2]; omega) (by simp only [rep_length hk2]; omega) (PreR.nil _))))))))) (by kernel_rfl) ?_
  refine Ops.v (g_add rfl rfl rfl rfl rfl) rfl ?_
  refine Ops.v (g_assign rfl rfl rfl rfl) rfl ?_
  refine Ops.nil ?_
  refine Bl.n ?_
  refine Sq.n ?_
  have hlen : ((((((rep N k s).map cSpan).length : Nat) : Int)).toNat - ((k : Nat) : Int).toNat) = N - k := by rw [List.length_map, rep_length hk2]; rfl
  have hk0 : (((k : Nat) : Int).toNat - (0 : Int).toNat) = k := rfl
  have hk3 : ((k : Nat) : Int).toNat = k := rfl
  have hm1 : Nat.min k (N - k) ≤ N - k := Nat.min_le_right _ _
  have hm2 : 1 ≤ Nat.min k (N - k) := by
   rcases Nat.le_total k (N - k) with h | h
   ·rw [show Nat.min k (N - k) = k from Nat.min_eq_left h]; omega
   ·rw [show Nat.min k (N - k) = N - k from Nat.min_eq_right h]; omega
  refine ⟨k + Nat.min k (N - k), ⟨by omega, by omega⟩, by omega, has_mk ⟨rfl, lkEq rfl (i_eq ?_), trivial⟩ trivial ⟨lkEq rfl (row_eq ?_), trivial⟩ rfl⟩
  ·rw [hlen, hk0, IntKind.wrap_i64]; omega
  ·rw [hlen, hk0, hk3]; exact congrArg _ (rep_step hk2 rfl)
 ·refine W.exit ?_
  refine Sq.e ?_
  refine Sq.e ?_
  refine Bl.e ?_
  refine Sq.n ?_
  refine W.seq ?_
  refine W.region ?_
  refine Ops.v (g_move rfl rfl rfl rfl) rfl ?_
  refine Ops.v (g_assign rfl rfl rfl rfl) rfl ?_
  refine Ops.nil ?_
  refine Sq.n ?_
  refine W.ret ?_
  have hkN : k = N := by rw [rep_length hk2] at hc; simp at hc; omega
  subst hkN
  exact ⟨4, 30, rfl, rfl, by simp [rep]; rfl⟩
end Go.Proofs.YtohmhlkdgfcaeaaGreatDoor
namespace Go.Proofs.YtohmhlkdgfcaeaaGreatDoor
open Go Go.RowKit
set_option maxRecDepth 4000
attribute [local irreducible] W Ops GS GSG
def s_127 (n : Nat) (v0 : (List Int)) : Option (Int) := (s_128 n v0).bind fun v101 => some (wr (v101 + 1))
theorem c_127 (n : Nat) (v0 : (List Int)) {r : (Int)} (h : s_127 n v0 = some r) :
  Fun Tryz.prog 127 [.sl (v0.map eI)] (.ret (.val (.int .i64 r))) := by
 unfold s_127 at h
 refine enterW 6 Tryz.func127 q q q ?_
 intro w0 F0
 change W _ _ (Ev [(0, .pv (.sl (List.map eI v0)))]) _
 refine W.seq<|W.region<|va q q q q q<|on0<|Sq.n<|W.seq<|W.region<|vm q q q q q ?_
 obtain ⟨v101, e101, h⟩ := bind_some h
 refine ov (g_call q q q ca_128 q (c_128 _ _ e101)) q<|ov (g_add q q q q q) q<|va q q q q q<|on0<|Sq.n<|W.ret ?_
 obtain rfl := Option.some.inj h
 exact Fin.r q (.cons (.tmp _ _ q) .nil) q
def s_173_j6 (n : Nat) (K3 : Int → (List Span) → Option (Except Value (Filled))) (v101 : Acid) (v153 : Int) (v154 : (List Span)) (v162 : Span) (v163 : Int) (v164 : Int) : Option (Except Value (Filled)) := (ix v154 (wr (v153 - 1))).bind fun v165 => (s_188 n (wr (v153 - 1)) v165 (Span.mk v164 (wr ((wr (v162.high - v163)) + v101.fall.high)))).bind fun v166 =>
 Except.casesOn (motive := fun _ => Option (Except Value (Filled))) v166 (fun p => some (.error p)) (fun v167 => (ix v154 (wr (v153 - 1))).bind fun v168 => K3 (wr (v153 - 1)) (sts v154 (wr (v153 - 1)) v167) )
def s_173_l3 (n : Nat) (v0 : Drum) (v1 : Int) (v101 : Acid) : Nat → Int → (List Span) → Option (Except Value (Filled))
| 0, _, _ => none
| k3 + 1, v153, v154 => bif (decide (0 < v153)) then ( (ix v154 v153).bind fun v162 => (ix v0.adds v153).bind fun v163 => bif (decide (v163 < v162.low)) then ( s_173_j6 n (s_173_l3 n v0 v1 v101 k3) v101 v153 v154 v162 v163 (wr ((wr (v162.low - v163)) + v101.fall.low)) ) else ( s_173_j6 n (s_173_l3 n v0 v1 v101 k3) v101 v153 v154 v162 v163 0 ) ) else ( some (.ok (Filled.mk v0 v1 v154)) )
def s_173_l2 (n : Nat) (v0 : Drum) (v1 : Int) (v101 : Acid) : Nat → Int → (List Span) → Option (Except Value (Filled))
| 0, _, _ => none
| k2 + 1, v132, v133 => bif (decide (v132 < v0.hours)) then ( (ix v133 (wr (v132 - 1))).bind fun v140 => (ix v0.adds v132).bind fun v141 => (ix v133 v132).bind fun v142 => (s_188 n v132 v142 (Span.mk (wr ((max 0 (wr (v140.low - v101.fall.high))) + v141)) (wr ((max 0 (wr (v140.high - v101.fall.low))) + v141)))).bind fun v143 =>
 Except.casesOn (motive := fun _ => Option (Except Value (Filled))) v143 (fun p => some (.error p)) (fun v144 => (ix v133 v132).bind fun v145 => (s_173_l2 n v0 v1 v101 k2) (wr (v132 + 1)) (sts v133 v132 v144) ) ) else ( s_173_l3 n v0 v1 v101 n (wr (v0.hours - 1)) v133 )
def s_173_l1 (n : Nat) (v0 : Drum) (v1 : Int) (v101 : Acid) : Nat → Int → (List Span) → Option (Except Value (Filled))
| 0, _, _ => none
| k1 + 1, v108, v109 => bif (decide (v108 < (v0.strips.length : Int))) then ( (ix v0.strips v108).bind fun v115 => (ix v109 v115.hour).bind fun v116 => (s_188 n v115.hour v116 (Span.mk (wr (v115.seen - v115.off)) (wr (v115.seen + v115.off)))).bind fun v117 => Except.casesOn (motive := fun _ => Option (Except Value (Filled))) v117 (fun p => some (.error p)) (fun v118 =>
 (ix v109 v115.hour).bind fun v119 => (s_173_l1 n v0 v1 v101 k1) (wr (v108 + 1)) (sts v109 v115.hour v118) ) ) else ( (ix v109 0).bind fun v120 => (ix v0.adds 0).bind fun v121 => (ix v0.adds 0).bind fun v122 => (s_188 n 0 v120 (Span.mk (wr (v101.strength.low + v121)) (wr (v101.strength.high + v122)))).bind fun v123 =>
 Except.casesOn (motive := fun _ => Option (Except Value (Filled))) v123 (fun p => some (.error p)) (fun v124 => (ix v109 0).bind fun v125 => s_173_l2 n v0 v1 v101 n 1 (sts v109 0 v124) ) )
def s_173 (n : Nat) (v0 : Drum) (v1 : Int) : Option (Except Value (Filled)) := (ix v0.acids v1).bind fun v101 => (s_187 n ([(Span.mk 0 1300)]) v0.hours).bind fun v102 => s_173_l1 n v0 v1 v101 n 0 v102
theorem c_173 (n : Nat) (v0 : Drum) (v1 : Int) {r : (Except Value (Filled))} (h : s_173 n v0 v1 = some r) :
  Fun Tryz.prog 173 [.agg (cDrum v0), .val (.int .i64 v1)] (rs (fun r => .agg (cFilled r)) r) := by
 unfold s_173 at h
 refine enterW 179 Tryz.func173 q q q ?_
 intro w0 F0
 change W _ _ (Ev [(0, .pv (.agg (cDrum v0))), (1, .pv (.i v1))]) _
 refine W.seq<|W.region<|ob (g_box q q q q q) q q<|ob (g_alloc q q q zr_115) q q<|on0<|Sq.n<|W.seq<|W.region<|ov (g_fld q q q q fl_27_0) q<|ov (g_load1 q q q q q q ag_22) q<|vm q q q q q ?_
 obtain ⟨v101, e101, h⟩ := bind_some h
 refine ov (g_idxI (l := v0.acids) (enc := cAcid) e101 q q q q q el_22 q) q<|ov (g_loadRA q q q q ag_137 sz_137 q q) q<|ob (g_alloc q q q zr_137) q q<|Ops.step q (s_storeB q q q q q q sz_137 q q)<|on0<|Sq.n<|W.seq<|W.region<|ov (g_build (cs := (cSpan (Span.mk 0 1300))) q q q zr_57 st_57 q q) q<|Ops.r (g_buildSlice (cs := [.val (.int .i64 0), .val (.int .i64 1300)]) (es := List.map cSpan [(Span.mk 0 1300)]) q q q el_30 ⟨_, zr_57⟩ q q q q q q) q q<|ov (g_fld q q q q fl_27_2) q<|ov (g_load1 q q q q q q ag_3) q<|Ops.share (k := 22) q ?_
 obtain ⟨v102, e102, h⟩ := bind_some h
 refine Ops.r (g_callRow2 q q q ca_187 q (c_187 _ _ _ e102)) q q<|va q q q q q<|on0<|Sq.n<|W.seq<|W.seq<|W.region<|ov (g_fld q q q q fl_27_4) q<|ov (g_load1 q q q q q q ag_24) q<|ov (g_lenM (l := v0.strips) (enc := cStrip) q ul_24 q q q) q<|vm q q q q q<|on0<|Sq.n<|W.block<|W.loop (σ := Nat × Int × (List Span)) (fun s => (⟨[(1, .pv (.i v1)), (2, .box 2 0), (4, .box 4 0), (5, .box 5 0), (6, .row 25), (27, .pv (.sl (List.map cStrip v0.strips))), (28, .pv (.val (.int .i64 (v0.strips.length : Int)))), (29, .pv (.i s.2.1))], [(2, 27, [.pv (.sl (List.map cAcid v0.acids)), .pv (.i v0.known), .pv (.i v0.hours), .pv (.sl (List.map eI v0.adds)), .pv (.sl (List.map cStrip v0.strips)), .pv (.sl (List.map cBatch v0.batches))]), (4, 115, [.pv (.val (.slice none 0 0)), .pv (.i 0), .pv (.i 0), .pv (.val (.slice none 0 0)), .pv (.val (.slice none 0 0)), .pv (.val (.slice none 0 0)), .pv (.i 0), .pv (.val (.slice none 0 0))]), (5, 137, [.pv (.i v101.strength.low), .pv (.i v101.strength.high), .pv (.i v101.fall.low), .pv (.i v101.fall.high)])], [(25, ⟨57, 2, List.map cSpan s.2.2⟩)]⟩ : Env)) (fun s => s_173_l1 n v0 v1 v101 s.1 s.2.1 s.2.2 = some r) (fun s => s.1) (n, 0, v102) h (has_mk ⟨q, q, q, q, q, q, q, q, trivial⟩ ⟨q, q, q, trivial⟩ ⟨q, trivial⟩ q) ?_
 rintro ⟨k1, v108, v109⟩ h
 change s_173_l1 n v0 v1 v101 k1 v108 v109 = some r at h
 rcases k1 with _ | k1
 ·rw [s_173_l1] at h
  cases h
 ·rw [s_173_l1] at h
  change W _ _ (⟨[(1, .pv (.i v1)), (2, .box 2 0), (4, .box 4 0), (5, .box 5 0), (6, .row 25), (27, .pv (.sl (List.map cStrip v0.strips))), (28, .pv (.val (.int .i64 (v0.strips.length : Int)))), (29, .pv (.i v108))], [(2, 27, [.pv (.sl (List.map cAcid v0.acids)), .pv (.i v0.known), .pv (.i v0.hours), .pv (.sl (List.map eI v0.adds)), .pv (.sl (List.map cStrip v0.strips)), .pv (.sl (List.map cBatch v0.batches))]), (4, 115, [.pv (.val (.slice none 0 0)), .pv (.i 0), .pv (.i 0), .pv (.val (.slice none 0 0)), .pv (.val (.slice none 0 0)), .pv (.val (.slice none 0 0)), .pv (.i 0), .pv (.val (.slice none 0 0))]), (5, 137, [.pv (.i v101.strength.low), .pv (.i v101.strength.high), .pv (.i v101.fall.low), .pv (.i v101.fall.high)])], [(25, ⟨57, 2, List.map cSpan v109⟩)]⟩ : Env) _
  refine W.seq<|W.region<|ov (g_lss q q q q q) q<|on0<|Sq.n<|W.seq<|W.cond (b := (decide (v108 < (v0.strips.length : Int)))) q (fun hc => ?_) (fun hc => ?_)
  ·have h := bif_t h hc
   refine W.skip<|Sq.n<|W.seq<|W.block<|W.seq<|W.region ?_
   obtain ⟨v115, e115, h⟩ := bind_some h
   refine ov (g_idxI (l := v0.strips) (enc := cStrip) e115 q q q q q el_24 q) q<|ov (g_loadRA q q q q ag_92 sz_92 q q) q<|ob (g_alloc q q q zr_92) q q<|Ops.step q (s_storeB q q q q q q sz_92 q q)<|on0<|Sq.n ?_
   obtain ⟨v116, e116, h⟩ := bind_some h
   obtain ⟨v117, e117, h⟩ := bind_some h
   rcases v117 with p | v118
   ·obtain rfl := Option.some.inj h
    exact W.drawQ (m := 22) Checked.mixed (PreQ.v (GSQ.of (GSG.of q (g_move q q q q))) ((PreQ.v (GSQ.of (GSG.of q (g_fld q q q q fl_92_0))) ((PreQ.v (GSQ.of (GSG.of q (g_load1 q q q q q q ag_3))) ((PreQ.v (GSQ.of (GSG.of q (g_fld q q q q fl_92_0))) ((PreQ.v (GSQ.of (GSG.of q (g_load1 q q q q q q ag_3))) ((PreQ.v (GSQ.of (GSG.of q (g_move q q q q))) ((PreQ.v (GSQ.of (GSG.of q (g_fld q q q q fl_92_0))) ((PreQ.v (GSQ.of (GSG.of q (g_load1 q q q q q q ag_3))) ((PreQ.v (GSQ.of (GSG.of q (g_idxPI (l := v109) (enc := cSpan) e116 q q q q q q el_30))) ((PreQ.v (GSQ.of (GSG.of q (g_loadPAI (sz := 2) (l := v109) (enc := cSpan) e116 q q q q q ag_57 sz_57))) ((PreQ.v (GSQ.of (GSG.of q (g_fld q q q q fl_92_1))) ((PreQ.v (GSQ.of (GSG.of q (g_load1 q q q q q q ag_3))) ((PreQ.v (GSQ.of (GSG.of q (g_fld q q q q fl_92_2))) ((PreQ.v (GSQ.of (GSG.of q (g_load1 q q q q q q ag_3))) ((PreQ.v (GSQ.of (GSG.of q (g_sub q q q q q))) ((PreQ.v (GSQ.of (GSG.of q (g_fld q q q q fl_92_1))) ((PreQ.v (GSQ.of (GSG.of q (g_load1 q q q q q q ag_3))) ((PreQ.v (GSQ.of (GSG.of q (g_fld q q q q fl_92_2))) ((PreQ.v (GSQ.of (GSG.of q (g_load1 q q q q q q ag_3))) ((PreQ.v (GSQ.of (GSG.of q (g_add q q q q q))) ((PreQ.v (GSQ.of (GSG.of q (g_build (cs := (cSpan (Span.mk (wr (v115.seen - v115.off)) (wr (v115.seen + v115.off))))) q q q zr_57 st_57 q q))) ((PreQ.v (GSQ.pan (d := 54) q q ca_188 q (c_188 _ _ _ _ e117) (fun _ => Bl.p (Sq.p (Sq.p (Bl.p (Sq.p (Fin.p q))))))) (PreQ.nil _)))))))))))))))))))))))))))))))))))))))))))) (by kernel_rfl)<|Ops.absurd 54 1000000 q q
   ·refine W.draw (m := 22) Checked.mixed (Pre.v (GSG.of q (g_move q q q q)) ((Pre.v (GSG.of q (g_fld q q q q fl_92_0)) ((Pre.v (GSG.of q (g_load1 q q q q q q ag_3)) ((Pre.v (GSG.of q (g_fld q q q q fl_92_0)) ((Pre.v (GSG.of q (g_load1 q q q q q q ag_3)) ((Pre.v (GSG.of q (g_move q q q q)) ((Pre.v (GSG.of q (g_fld q q q q fl_92_0)) ((Pre.v (GSG.of q (g_load1 q q q q q q ag_3)) ((Pre.v (GSG.of q (g_idxPI (l := v109) (enc := cSpan) e116 q q q q q q el_30)) ((Pre.v (GSG.of q (g_loadPAI (sz := 2) (l := v109) (enc := cSpan) e116 q q q q q ag_57 sz_57)) ((Pre.v (GSG.of q (g_fld q q q q fl_92_1)) ((Pre.v (GSG.of q (g_load1 q q q q q q ag_3)) ((Pre.v (GSG.of q (g_fld q q q q fl_92_2)) ((Pre.v (GSG.of q (g_load1 q q q q q q ag_3)) ((Pre.v (GSG.of q (g_sub q q q q q)) ((Pre.v (GSG.of q (g_fld q q q q fl_92_1)) ((Pre.v (GSG.of q (g_load1 q q q q q q ag_3)) ((Pre.v (GSG.of q (g_fld q q q q fl_92_2)) ((Pre.v (GSG.of q (g_load1 q q q q q q ag_3)) ((Pre.v (GSG.of q (g_add q q q q q)) ((Pre.v (GSG.of q (g_build (cs := (cSpan (Span.mk (wr (v115.seen - v115.off)) (wr (v115.seen + v115.off))))) q q q zr_57 st_57 q q)) ((Pre.v (GSG.of q (g_call q q q ca_188 q (c_188 _ _ _ _ e117))) (Pre.nil _)))))))))))))))))))))))))))))))))))))))))))) (by kernel_rfl) ?_
    obtain ⟨v119, e119, h⟩ := bind_some h
    exact ov (g_idxPI (l := v109) (enc := cSpan) e119 q q q q q q el_30) q<|Ops.step q (s_storePI (sz := 2) (l := v109) (enc := cSpan) v118 e119 q q q q q q q sz_57 q q)<|on0<|Bl.n<|Sq.n<|W.region<|ov (g_add q q q q q) q<|vm q q q q q<|on0<|Sq.n<|⟨(k1, wr (v108 + 1), sts v109 v115.hour v118), h, Nat.lt_succ_self _, has_mk ⟨q, q, q, q, q, q, q, q, trivial⟩ ⟨q, q, q, trivial⟩ ⟨q, trivial⟩ q⟩
  ·have h := bif_f h hc
   refine W.exit<|Sq.e<|Sq.e<|Bl.e<|Sq.n<|W.seq ?_
   obtain ⟨v120, e120, h⟩ := bind_some h
   obtain ⟨v121, e121, h⟩ := bind_some h
   obtain ⟨v122, e122, h⟩ := bind_some h
   obtain ⟨v123, e123, h⟩ := bind_some h
   rcases v123 with p | v124
   ·obtain rfl := Option.some.inj h
    exact W.drawQ (m := 22) Checked.mixed (PreQ.v (GSQ.of (GSG.of q (g_move q q q q))) ((PreQ.v (GSQ.of (GSG.of q (g_move q q q q))) ((PreQ.v (GSQ.of (GSG.of q (g_idxPI (l := v109) (enc := cSpan) e120 q q q q q q el_30))) ((PreQ.v (GSQ.of (GSG.of q (g_loadPAI (sz := 2) (l := v109) (enc := cSpan) e120 q q q q q ag_57 sz_57))) ((PreQ.v (GSQ.of (GSG.of q (g_fld q q q q fl_137_0))) ((PreQ.v (GSQ.of (GSG.of q (g_fld q q q q fl_57_0))) ((PreQ.v (GSQ.of (GSG.of q (g_load1 q q q q q q ag_3))) ((PreQ.v (GSQ.of (GSG.of q (g_fld q q q q fl_27_3))) ((PreQ.v (GSQ.of (GSG.of q (g_load1 q q q q q q ag_23))) ((PreQ.v (GSQ.of (GSG.of q (g_idxI (l := v0.adds) (enc := eI) e121 q q q q q el_23 q))) ((PreQ.v (GSQ.of (GSG.of q (g_loadR1 q q q q q ag_3))) ((PreQ.v (GSQ.of (GSG.of q (g_add q q q q q))) ((PreQ.v (GSQ.of (GSG.of q (g_fld q q q q fl_137_0))) ((PreQ.v (GSQ.of (GSG.of q (g_fld q q q q fl_57_1))) ((PreQ.v (GSQ.of (GSG.of q (g_load1 q q q q q q ag_3))) ((PreQ.v (GSQ.of (GSG.of q (g_fld q q q q fl_27_3))) ((PreQ.v (GSQ.of (GSG.of q (g_load1 q q q q q q ag_23))) ((PreQ.v (GSQ.of (GSG.of q (g_idxI (l := v0.adds) (enc := eI) e122 q q q q q el_23 q))) ((PreQ.v (GSQ.of (GSG.of q (g_loadR1 q q q q q ag_3))) ((PreQ.v (GSQ.of (GSG.of q (g_add q q q q q))) ((PreQ.v (GSQ.of (GSG.of q (g_build (cs := (cSpan (Span.mk (wr (v101.strength.low + v121)) (wr (v101.strength.high + v122))))) q q q zr_57 st_57 q q))) ((PreQ.v (GSQ.pan (d := 78) q q ca_188 q (c_188 _ _ _ _ e123) (fun _ => Sq.p (Fin.p q))) (PreQ.nil _)))))))))))))))))))))))))))))))))))))))))))) (by kernel_rfl)<|Ops.absurd 78 1000000 q q
   ·refine W.draw (m := 22) Checked.mixed (Pre.v (GSG.of q (g_move q q q q)) ((Pre.v (GSG.of q (g_move q q q q)) ((Pre.v (GSG.of q (g_idxPI (l := v109) (enc := cSpan) e120 q q q q q q el_30)) ((Pre.v (GSG.of q (g_loadPAI (sz := 2) (l := v109) (enc := cSpan) e120 q q q q q ag_57 sz_57)) ((Pre.v (GSG.of q (g_fld q q q q fl_137_0)) ((Pre.v (GSG.of q (g_fld q q q q fl_57_0)) ((Pre.v (GSG.of q (g_load1 q q q q q q ag_3)) ((Pre.v (GSG.of q (g_fld q q q q fl_27_3)) ((Pre.v (GSG.of q (g_load1 q q q q q q ag_23)) ((Pre.v (GSG.of q (g_idxI (l := v0.adds) (enc := eI) e121 q q q q q el_23 q)) ((Pre.v (GSG.of q (g_loadR1 q q q q q ag_3)) ((Pre.v (GSG.of q (g_add q q q q q)) ((Pre.v (GSG.of q (g_fld q q q q fl_137_0)) ((Pre.v (GSG.of q (g_fld q q q q fl_57_1)) ((Pre.v (GSG.of q (g_load1 q q q q q q ag_3)) ((Pre.v (GSG.of q (g_fld q q q q fl_27_3)) ((Pre.v (GSG.of q (g_load1 q q q q q q ag_23)) ((Pre.v (GSG.of q (g_idxI (l := v0.adds) (enc := eI) e122 q q q q q el_23 q)) ((Pre.v (GSG.of q (g_loadR1 q q q q q ag_3)) ((Pre.v (GSG.of q (g_add q q q q q)) ((Pre.v (GSG.of q (g_build (cs := (cSpan (Span.mk (wr (v101.strength.low + v121)) (wr (v101.strength.high + v122))))) q q q zr_57 st_57 q q)) ((Pre.v (GSG.of q (g_call q q q ca_188 q (c_188 _ _ _ _ e123))) (Pre.nil _)))))))))))))))))))))))))))))))))))))))))))) (by kernel_rfl) ?_
    obtain ⟨v125, e125, h⟩ := bind_some h
    refine ov (g_idxPI (l := v109) (enc := cSpan) e125 q q q q q q el_30) q<|Ops.step q (s_storePI (sz := 2) (l := v109) (enc := cSpan) v124 e125 q q q q q q q sz_57 q q)<|on0<|Sq.n<|W.seq<|W.seq<|W.region<|va q q q q q<|on0<|Sq.n<|W.block<|W.loop (σ := Nat × Int × (List Span)) (fun s => (⟨[(1, .pv (.i v1)), (2, .box 2 0), (4, .box 4 0), (5, .box 5 0), (6, .row 25), (9, .pv (.i s.2.1))], [(2, 27, [.pv (.sl (List.map cAcid v0.acids)), .pv (.i v0.known), .pv (.i v0.hours), .pv (.sl (List.map eI v0.adds)), .pv (.sl (List.map cStrip v0.strips)), .pv (.sl (List.map cBatch v0.batches))]), (4, 115, [.pv (.val (.slice none 0 0)), .pv (.i 0), .pv (.i 0), .pv (.val (.slice none 0 0)), .pv (.val (.slice none 0 0)), .pv (.val (.slice none 0 0)), .pv (.i 0), .pv (.val (.slice none 0 0))]), (5, 137, [.pv (.i v101.strength.low), .pv (.i v101.strength.high), .pv (.i v101.fall.low), .pv (.i v101.fall.high)])], [(25, ⟨57, 2, List.map cSpan s.2.2⟩)]⟩ : Env)) (fun s => s_173_l2 n v0 v1 v101 s.1 s.2.1 s.2.2 = some r) (fun s => s.1) (n, 1, sts v109 0 v124) h (has_mk ⟨q, q, q, q, q, q, trivial⟩ ⟨q, q, q, trivial⟩ ⟨q, trivial⟩ q) ?_
    rintro ⟨k2, v132, v133⟩ h
    change s_173_l2 n v0 v1 v101 k2 v132 v133 = some r at h
    rcases k2 with _ | k2
    ·rw [s_173_l2] at h
     cases h
    ·rw [s_173_l2] at h
     change W _ _ (⟨[(1, .pv (.i v1)), (2, .box 2 0), (4, .box 4 0), (5, .box 5 0), (6, .row 25), (9, .pv (.i v132))], [(2, 27, [.pv (.sl (List.map cAcid v0.acids)), .pv (.i v0.known), .pv (.i v0.hours), .pv (.sl (List.map eI v0.adds)), .pv (.sl (List.map cStrip v0.strips)), .pv (.sl (List.map cBatch v0.batches))]), (4, 115, [.pv (.val (.slice none 0 0)), .pv (.i 0), .pv (.i 0), .pv (.val (.slice none 0 0)), .pv (.val (.slice none 0 0)), .pv (.val (.slice none 0 0)), .pv (.i 0), .pv (.val (.slice none 0 0))]), (5, 137, [.pv (.i v101.strength.low), .pv (.i v101.strength.high), .pv (.i v101.fall.low), .pv (.i v101.fall.high)])], [(25, ⟨57, 2, List.map cSpan v133⟩)]⟩ : Env) _
     refine W.seq<|W.seq<|W.region<|vm q q q q q<|ov (g_fld q q q q fl_27_2) q<|ov (g_load1 q q q q q q ag_3) q<|ov (g_lss q q q q q) q<|on0<|Sq.n<|W.cond (b := (decide (v132 < v0.hours))) q (fun hc => ?_) (fun hc => ?_)
     ·have h := bif_t h hc
      refine W.skip<|Sq.n<|W.seq<|W.block<|W.seq ?_
      obtain ⟨v140, e140, h⟩ := bind_some h
      obtain ⟨v141, e141, h⟩ := bind_some h
      refine W.drawR (m := 12) Checked.mixed (PreR.v (GSQ.of (GSG.of q (g_move q q q q))) ((PreR.v (GSQ.of (GSG.of q (g_move q q q q))) ((PreR.v (GSQ.of (GSG.of q (g_sub q q q q q))) ((PreR.v (GSQ.of (GSG.of q (g_idxPI (l := v133) (enc := cSpan) e140 q q q q q q el_30))) ((PreR.v (GSQ.of (GSG.of q (g_loadPAI (sz := 2) (l := v133) (enc := cSpan) e140 q q q q q ag_57 sz_57))) ((PreR.v (GSQ.of (GSG.of q (g_fld q q q q fl_27_3))) ((PreR.v (GSQ.of (GSG.of q (g_load1 q q q q q q ag_23))) ((PreR.v (GSQ.of (GSG.of q (g_move q q q q))) ((PreR.v (GSQ.of (GSG.of q (g_idxI (l := v0.adds) (enc := eI) e141 q q q q q el_23 q))) ((PreR.v (GSQ.of (GSG.of q (g_loadR1 q q q q q ag_3))) ((PreR.b (GSQ.of (GSG.of q (g_alloc q q q zr_57))) q ((PreR.sB q q q q q q q sz_57 q q (PreR.nil _)))))))))))))))))))))))) (by kernel_rfl)<|va q q q q q<|on0<|Sq.n ?_
      obtain ⟨v142, e142, h⟩ := bind_some h
      obtain ⟨v143, e143, h⟩ := bind_some h
      rcases v143 with p | v144
      ·obtain rfl := Option.some.inj h
       exact W.drawQ (m := 27) Checked.mixed (PreQ.v (GSQ.of (GSG.of q (g_move q q q q))) ((PreQ.v (GSQ.of (GSG.of q (g_move q q q q))) ((PreQ.v (GSQ.of (GSG.of q (g_move q q q q))) ((PreQ.v (GSQ.of (GSG.of q (g_move q q q q))) ((PreQ.v (GSQ.of (GSG.of q (g_move q q q q))) ((PreQ.v (GSQ.of (GSG.of q (g_idxPI (l := v133) (enc := cSpan) e142 q q q q q q el_30))) ((PreQ.v (GSQ.of (GSG.of q (g_loadPAI (sz := 2) (l := v133) (enc := cSpan) e142 q q q q q ag_57 sz_57))) ((PreQ.v (GSQ.of (GSG.of q (g_fld q q q q fl_57_0))) ((PreQ.v (GSQ.of (GSG.of q (g_load1 q q q q q q ag_3))) ((PreQ.v (GSQ.of (GSG.of q (g_fld q q q q fl_137_1))) ((PreQ.v (GSQ.of (GSG.of q (g_fld q q q q fl_57_1))) ((PreQ.v (GSQ.of (GSG.of q (g_load1 q q q q q q ag_3))) ((PreQ.v (GSQ.of (GSG.of q (g_sub q q q q q))) ((PreQ.v (GSQ.of (GSG.of q (g_max q q q q q))) ((PreQ.v (GSQ.of (GSG.of q (g_move q q q q))) ((PreQ.v (GSQ.of (GSG.of q (g_add q q q q q))) ((PreQ.v (GSQ.of (GSG.of q (g_fld q q q q fl_57_1))) ((PreQ.v (GSQ.of (GSG.of q (g_load1 q q q q q q ag_3))) ((PreQ.v (GSQ.of (GSG.of q (g_fld q q q q fl_137_1))) ((PreQ.v (GSQ.of (GSG.of q (g_fld q q q q fl_57_0))) ((PreQ.v (GSQ.of (GSG.of q (g_load1 q q q q q q ag_3))) ((PreQ.v (GSQ.of (GSG.of q (g_sub q q q q q))) ((PreQ.v (GSQ.of (GSG.of q (g_max q q q q q))) ((PreQ.v (GSQ.of (GSG.of q (g_move q q q q))) ((PreQ.v (GSQ.of (GSG.of q (g_add q q q q q))) ((PreQ.v (GSQ.of (GSG.of q (g_build (cs := (cSpan (Span.mk (wr ((max 0 (wr (v140.low - v101.fall.high))) + v141)) (wr ((max 0 (wr (v140.high - v101.fall.low))) + v141))))) q q q zr_57 st_57 q q))) ((PreQ.v (GSQ.pan (d := 122) q q ca_188 q (c_188 _ _ _ _ e143) (fun _ => Bl.p (Sq.p (Sq.p (Bl.p (Sq.p (Fin.p q))))))) (PreQ.nil _)))))))))))))))))))))))))))))))))))))))))))))))))))))) (by kernel_rfl)<|Ops.absurd 122 1000000 q q
      ·refine W.draw (m := 27) Checked.mixed (Pre.v (GSG.of q (g_move q q q q)) ((Pre.v (GSG.of q (g_move q q q q)) ((Pre.v (GSG.of q (g_move q q q q)) ((Pre.v (GSG.of q (g_move q q q q)) ((Pre.v (GSG.of q (g_move q q q q)) ((Pre.v (GSG.of q (g_idxPI (l := v133) (enc := cSpan) e142 q q q q q q el_30)) ((Pre.v (GSG.of q (g_loadPAI (sz := 2) (l := v133) (enc := cSpan) e142 q q q q q ag_57 sz_57)) ((Pre.v (GSG.of q (g_fld q q q q fl_57_0)) ((Pre.v (GSG.of q (g_load1 q q q q q q ag_3)) ((Pre.v (GSG.of q (g_fld q q q q fl_137_1)) ((Pre.v (GSG.of q (g_fld q q q q fl_57_1)) ((Pre.v (GSG.of q (g_load1 q q q q q q ag_3)) ((Pre.v (GSG.of q (g_sub q q q q q)) ((Pre.v (GSG.of q (g_max q q q q q)) ((Pre.v (GSG.of q (g_move q q q q)) ((Pre.v (GSG.of q (g_add q q q q q)) ((Pre.v (GSG.of q (g_fld q q q q fl_57_1)) ((Pre.v (GSG.of q (g_load1 q q q q q q ag_3)) ((Pre.v (GSG.of q (g_fld q q q q fl_137_1)) ((Pre.v (GSG.of q (g_fld q q q q fl_57_0)) ((Pre.v (GSG.of q (g_load1 q q q q q q ag_3)) ((Pre.v (GSG.of q (g_sub q q q q q)) ((Pre.v (GSG.of q (g_max q q q q q)) ((Pre.v (GSG.of q (g_move q q q q)) ((Pre.v (GSG.of q (g_add q q q q q)) ((Pre.v (GSG.of q (g_build (cs := (cSpan (Span.mk (wr ((max 0 (wr (v140.low - v101.fall.high))) + v141)) (wr ((max 0 (wr (v140.high - v101.fall.low))) + v141))))) q q q zr_57 st_57 q q)) ((Pre.v (GSG.of q (g_call q q q ca_188 q (c_188 _ _ _ _ e143))) (Pre.nil _)))))))))))))))))))))))))))))))))))))))))))))))))))))) (by kernel_rfl) ?_
       obtain ⟨v145, e145, h⟩ := bind_some h
       exact ov (g_idxPI (l := v133) (enc := cSpan) e145 q q q q q q el_30) q<|Ops.step q (s_storePI (sz := 2) (l := v133) (enc := cSpan) v144 e145 q q q q q q q sz_57 q q)<|on0<|Bl.n<|Sq.n<|W.region<|vm q q q q q<|ov (g_add q q q q q) q<|va q q q q q<|on0<|Sq.n<|⟨(k2, wr (v132 + 1), sts v133 v132 v144), h, Nat.lt_succ_self _, has_mk ⟨q, q, q, q, q, q, trivial⟩ ⟨q, q, q, trivial⟩ ⟨q, trivial⟩ q⟩
     ·have h := bif_f h hc
      refine W.exit<|Sq.e<|Sq.e<|Bl.e<|Sq.n<|W.seq<|W.seq<|W.region<|ov (g_fld q q q q fl_27_2) q<|ov (g_load1 q q q q q q ag_3) q<|ov (g_sub q q q q q) q<|va q q q q q<|on0<|Sq.n<|W.block<|W.loop (σ := Nat × Int × (List Span)) (fun s => (⟨[(1, .pv (.i v1)), (2, .box 2 0), (4, .box 4 0), (5, .box 5 0), (6, .row 25), (12, .pv (.i s.2.1))], [(2, 27, [.pv (.sl (List.map cAcid v0.acids)), .pv (.i v0.known), .pv (.i v0.hours), .pv (.sl (List.map eI v0.adds)), .pv (.sl (List.map cStrip v0.strips)), .pv (.sl (List.map cBatch v0.batches))]), (4, 115, [.pv (.val (.slice none 0 0)), .pv (.i 0), .pv (.i 0), .pv (.val (.slice none 0 0)), .pv (.val (.slice none 0 0)), .pv (.val (.slice none 0 0)), .pv (.i 0), .pv (.val (.slice none 0 0))]), (5, 137, [.pv (.i v101.strength.low), .pv (.i v101.strength.high), .pv (.i v101.fall.low), .pv (.i v101.fall.high)])], [(25, ⟨57, 2, List.map cSpan s.2.2⟩)]⟩ : Env)) (fun s => s_173_l3 n v0 v1 v101 s.1 s.2.1 s.2.2 = some r) (fun s => s.1) (n, wr (v0.hours - 1), v133) h (has_mk ⟨q, q, q, q, q, q, trivial⟩ ⟨q, q, q, trivial⟩ ⟨q, trivial⟩ q) ?_
      rintro ⟨k3, v153, v154⟩ h
      change s_173_l3 n v0 v1 v101 k3 v153 v154 = some r at h
      rcases k3 with _ | k3
      ·rw [s_173_l3] at h
       cases h
      ·rw [s_173_l3] at h
       change W _ _ (⟨[(1, .pv (.i v1)), (2, .box 2 0), (4, .box 4 0), (5, .box 5 0), (6, .row 25), (12, .pv (.i v153))], [(2, 27, [.pv (.sl (List.map cAcid v0.acids)), .pv (.i v0.known), .pv (.i v0.hours), .pv (.sl (List.map eI v0.adds)), .pv (.sl (List.map cStrip v0.strips)), .pv (.sl (List.map cBatch v0.batches))]), (4, 115, [.pv (.val (.slice none 0 0)), .pv (.i 0), .pv (.i 0), .pv (.val (.slice none 0 0)), .pv (.val (.slice none 0 0)), .pv (.val (.slice none 0 0)), .pv (.i 0), .pv (.val (.slice none 0 0))]), (5, 137, [.pv (.i v101.strength.low), .pv (.i v101.strength.high), .pv (.i v101.fall.low), .pv (.i v101.fall.high)])], [(25, ⟨57, 2, List.map cSpan v154⟩)]⟩ : Env) _
       refine W.seq<|W.seq<|W.region<|vm q q q q q<|ov (g_gtr q q q q q) q<|on0<|Sq.n<|W.cond (b := (decide (0 < v153))) q (fun hc => ?_) (fun hc => ?_)
       ·have h := bif_t h hc
        refine W.skip<|Sq.n<|W.seq<|W.block<|W.seq ?_
        obtain ⟨v162, e162, h⟩ := bind_some h
        obtain ⟨v163, e163, h⟩ := bind_some h
        refine W.drawR (m := 11) Checked.mixed (PreR.v (GSQ.of (GSG.of q (g_move q q q q))) ((PreR.v (GSQ.of (GSG.of q (g_move q q q q))) ((PreR.v (GSQ.of (GSG.of q (g_idxPI (l := v154) (enc := cSpan) e162 q q q q q q el_30))) ((PreR.v (GSQ.of (GSG.of q (g_loadPAI (sz := 2) (l := v154) (enc := cSpan) e162 q q q q q ag_57 sz_57))) ((PreR.v (GSQ.of (GSG.of q (g_fld q q q q fl_27_3))) ((PreR.v (GSQ.of (GSG.of q (g_load1 q q q q q q ag_23))) ((PreR.v (GSQ.of (GSG.of q (g_move q q q q))) ((PreR.v (GSQ.of (GSG.of q (g_idxI (l := v0.adds) (enc := eI) e163 q q q q q el_23 q))) ((PreR.v (GSQ.of (GSG.of q (g_loadR1 q q q q q ag_3))) ((PreR.b (GSQ.of (GSG.of q (g_alloc q q q zr_57))) q ((PreR.sB q q q q q q q sz_57 q q (PreR.nil _)))))))))))))))))))))) (by kernel_rfl)<|va q q q q q<|on0<|Sq.n<|W.seq<|W.region<|ov (g_fld q q q q fl_57_1) q<|ov (g_load1 q q q q q q ag_3) q<|vm q q q q q<|ov (g_sub q q q q q) q<|ov (g_fld q q q q fl_137_1) q<|ov (g_fld q q q q fl_57_1) q<|ov (g_load1 q q q q q q ag_3) q<|ov (g_add q q q q q) q<|ov (g_build (cs := (cSpan (Span.mk 0 (wr ((wr (v162.high - v163)) + v101.fall.high))))) q q q zr_57 st_57 q q) q<|ob (g_alloc q q q zr_57) q q<|Ops.step q (s_storeB q q q q q q sz_57 q q)<|on0<|Sq.n<|W.seqJ (σ := Int) (fun s => (⟨[(1, .pv (.i v1)), (2, .box 2 0), (4, .box 4 0), (5, .box 5 0), (6, .row 25), (12, .pv (.i v153)), (15, .box 15 0)], [(2, 27, [.pv (.sl (List.map cAcid v0.acids)), .pv (.i v0.known), .pv (.i v0.hours), .pv (.sl (List.map eI v0.adds)), .pv (.sl (List.map cStrip v0.strips)), .pv (.sl (List.map cBatch v0.batches))]), (4, 115, [.pv (.val (.slice none 0 0)), .pv (.i 0), .pv (.i 0), .pv (.val (.slice none 0 0)), .pv (.val (.slice none 0 0)), .pv (.val (.slice none 0 0)), .pv (.i 0), .pv (.val (.slice none 0 0))]), (5, 137, [.pv (.i v101.strength.low), .pv (.i v101.strength.high), .pv (.i v101.fall.low), .pv (.i v101.fall.high)]), (15, 57, [.pv (.i s), .pv (.val (.int .i64 (wr ((wr (v162.high - v163)) + v101.fall.high))))])], [(25, ⟨57, 2, List.map cSpan v154⟩)]⟩ : Env)) (fun s => s_173_j6 n (s_173_l3 n v0 v1 v101 k3) v101 v153 v154 v162 v163 s = some r) ?_ ?_
        ·refine W.seq<|W.region<|ov (g_fld q q q q fl_57_0) q<|ov (g_load1 q q q q q q ag_3) q<|vm q q q q q<|ov (g_gtr q q q q q) q<|on0<|Sq.n<|W.cond (b := (decide (v163 < v162.low))) q (fun hc => ?_) (fun hc => ?_)
         ·have h := bif_t h hc
          refine W.region<|ov (g_fld q q q q fl_57_0) q<|ov (g_load1 q q q q q q ag_3) q<|vm q q q q q<|ov (g_sub q q q q q) q<|ov (g_fld q q q q fl_137_1) q<|ov (g_fld q q q q fl_57_0) q<|ov (g_load1 q q q q q q ag_3) q<|ov (g_add q q q q q) q<|ov (g_fld q q q q fl_57_0) q<|Ops.step q (s_storeB q q q q q q sz_3 q q)<|on0<|Sq.n<|⟨wr ((wr (v162.low - v163)) + v101.fall.low), h, has_mk ⟨q, q, q, q, q, q, q, trivial⟩ ⟨q, q, q, q, trivial⟩ ⟨q, trivial⟩ q⟩
         ·have h := bif_f h hc
          refine W.skip<|Sq.n<|⟨0, h, has_mk ⟨q, q, q, q, q, q, q, trivial⟩ ⟨q, q, q, q, trivial⟩ ⟨q, trivial⟩ q⟩
        ·rintro v164 h
         change s_173_j6 n (s_173_l3 n v0 v1 v101 k3) v101 v153 v154 v162 v163 v164 = some r at h
         unfold s_173_j6 at h
         change W _ _ (⟨[(1, .pv (.i v1)), (2, .box 2 0), (4, .box 4 0), (5, .box 5 0), (6, .row 25), (12, .pv (.i v153)), (15, .box 15 0)], [(2, 27, [.pv (.sl (List.map cAcid v0.acids)), .pv (.i v0.known), .pv (.i v0.hours), .pv (.sl (List.map eI v0.adds)), .pv (.sl (List.map cStrip v0.strips)), .pv (.sl (List.map cBatch v0.batches))]), (4, 115, [.pv (.val (.slice none 0 0)), .pv (.i 0), .pv (.i 0), .pv (.val (.slice none 0 0)), .pv (.val (.slice none 0 0)), .pv (.val (.slice none 0 0)), .pv (.i 0), .pv (.val (.slice none 0 0))]), (5, 137, [.pv (.i v101.strength.low), .pv (.i v101.strength.high), .pv (.i v101.fall.low), .pv (.i v101.fall.high)]), (15, 57, [.pv (.i v164), .pv (.val (.int .i64 (wr ((wr (v162.high - v163)) + v101.fall.high))))])], [(25, ⟨57, 2, List.map cSpan v154⟩)]⟩ : Env) _
         obtain ⟨v165, e165, h⟩ := bind_some h
         obtain ⟨v166, e166, h⟩ := bind_some h
         rcases v166 with p | v167
         ·obtain rfl := Option.some.inj h
          exact W.drawQ (m := 12) Checked.mixed (PreQ.v (GSQ.of (GSG.of q (g_move q q q q))) ((PreQ.v (GSQ.of (GSG.of q (g_move q q q q))) ((PreQ.v (GSQ.of (GSG.of q (g_sub q q q q q))) ((PreQ.v (GSQ.of (GSG.of q (g_move q q q q))) ((PreQ.v (GSQ.of (GSG.of q (g_sub q q q q q))) ((PreQ.v (GSQ.of (GSG.of q (g_move q q q q))) ((PreQ.v (GSQ.of (GSG.of q (g_move q q q q))) ((PreQ.v (GSQ.of (GSG.of q (g_sub q q q q q))) ((PreQ.v (GSQ.of (GSG.of q (g_idxPI (l := v154) (enc := cSpan) e165 q q q q q q el_30))) ((PreQ.v (GSQ.of (GSG.of q (g_loadPAI (sz := 2) (l := v154) (enc := cSpan) e165 q q q q q ag_57 sz_57))) ((PreQ.v (GSQ.of (GSG.of q (g_loadA q q q q q ag_57 sz_57 q q))) ((PreQ.v (GSQ.pan (d := 173) q q ca_188 q (c_188 _ _ _ _ e166) (fun _ => Bl.p (Sq.p (Sq.p (Bl.p (Sq.p (Fin.p q))))))) (PreQ.nil _)))))))))))))))))))))))) (by kernel_rfl)<|Ops.absurd 173 1000000 q q
         ·refine W.draw (m := 12) Checked.mixed (Pre.v (GSG.of q (g_move q q q q)) ((Pre.v (GSG.of q (g_move q q q q)) ((Pre.v (GSG.of q (g_sub q q q q q)) ((Pre.v (GSG.of q (g_move q q q q)) ((Pre.v (GSG.of q (g_sub q q q q q)) ((Pre.v (GSG.of q (g_move q q q q)) ((Pre.v (GSG.of q (g_move q q q q)) ((Pre.v (GSG.of q (g_sub q q q q q)) ((Pre.v (GSG.of q (g_idxPI (l := v154) (enc := cSpan) e165 q q q q q q el_30)) ((Pre.v (GSG.of q (g_loadPAI (sz := 2) (l := v154) (enc := cSpan) e165 q q q q q ag_57 sz_57)) ((Pre.v (GSG.of q (g_loadA q q q q q ag_57 sz_57 q q)) ((Pre.v (GSG.of q (g_call q q q ca_188 q (c_188 _ _ _ _ e166))) (Pre.nil _)))))))))))))))))))))))) (by kernel_rfl) ?_
          obtain ⟨v168, e168, h⟩ := bind_some h
          exact ov (g_idxPI (l := v154) (enc := cSpan) e168 q q q q q q el_30) q<|Ops.step q (s_storePI (sz := 2) (l := v154) (enc := cSpan) v167 e168 q q q q q q q sz_57 q q)<|on0<|Bl.n<|Sq.n<|W.region<|vm q q q q q<|ov (g_sub q q q q q) q<|va q q q q q<|on0<|Sq.n<|⟨(k3, wr (v153 - 1), sts v154 (wr (v153 - 1)) v167), h, Nat.lt_succ_self _, has_mk ⟨q, q, q, q, q, q, trivial⟩ ⟨q, q, q, trivial⟩ ⟨q, trivial⟩ q⟩
       ·have h := bif_f h hc
        refine W.exit<|Sq.e<|Sq.e<|Bl.e<|Sq.n<|W.seq<|W.region<|ov (g_loadA q q q q q ag_27 sz_27 q q) q<|vm q q q q q<|vm q q q q q<|Ops.share (k := 25) q<|ov (g_build (cs := (cFilled (Filled.mk v0 v1 v154))) q q q zr_115 st_115 q q) q<|Ops.step q (s_storeB q q q q q q sz_115 q q)<|on0<|Sq.n<|W.ret ?_
        obtain rfl := Option.some.inj h
        exact Fin.r q (.cons (.agg _ _ _ _ (cFilled (Filled.mk v0 v1 v154)) q q ag_115 sz_115) .nil) q
end Go.Proofs.YtohmhlkdgfcaeaaGreatDoor
namespace Go.Proofs.YtohmhlkdgfcaeaaGreatDoor
open Go Go.RowKit
set_option maxRecDepth 4000
attribute [local irreducible] W Ops GS GSG
def s_152 (n : Nat) (v0 : Batch) : Option (Bool) := (s_153 n v0).bind fun v101 => some ((!v101))
theorem c_152 (n : Nat) (v0 : Batch) {r : (Bool)} (h : s_152 n v0 = some r) :
  Fun Tryz.prog 152 [.agg (cBatch v0)] (.ret (.b r)) := by
 unfold s_152 at h
 refine enterW 6 Tryz.func152 q q q ?_
 intro w0 F0
 change W _ _ (Ev [(0, .pv (.agg (cBatch v0)))]) _
 refine W.seq<|W.region<|ob (g_box q q q q q) q q<|va q q q q q<|on0<|Sq.n<|W.seq<|W.region<|ov (g_loadA q q q q q ag_67 sz_67 q q) q ?_
 obtain ⟨v101, e101, h⟩ := bind_some h
 refine ov (g_call q q q ca_153 q (c_153 _ _ e101)) q<|ov (g_not q q q q) q<|va q q q q q<|on0<|Sq.n<|W.ret ?_
 obtain rfl := Option.some.inj h
 exact Fin.r q (.cons (.tmp _ _ q) .nil) q
end Go.Proofs.YtohmhlkdgfcaeaaGreatDoor
namespace Go.Proofs.YtohmhlkdgfcaeaaGreatDoor
open Go Go.RowKit
set_option maxRecDepth 4000
attribute [local irreducible] W Ops GS GSG
def s_102m_l1 (n : Nat) (v0 : Windows) (v1 : Int) : Nat → Int → Span → Option (Span)
| 0, _, _ => none
| k1 + 1, v103, v104 =>
 bif (decide (v103 < ((List.length v0.own : Nat) : Int))) then (
 (ix v0.own v103).bind fun v107 =>
 (s_145 n v1 v103).bind fun v108 =>
 bif v108 then (
 (s_102m_l1 n v0 v1 k1) (wr (v103 + 1)) (Span.mk (max v104.low v107.low) (min v104.high v107.high))
 ) else (
 (s_102m_l1 n v0 v1 k1) (wr (v103 + 1)) v104
 )
 ) else (
 some (v104)
 )
def s_102m (n : Nat) (v0 : Windows) (v1 : Int) : Option (Span) :=
 s_102m_l1 n v0 v1 n 0 (Span.mk 0 12)
theorem c_102m (n : Nat) (v0 : Windows) (v1 : Int) {r : (Span)} (h : s_102m n v0 v1 = some r) (hr : r = ⟨(commonOf (List.map spanP v0.own) v1).1, (commonOf (List.map spanP v0.own) v1).2⟩) :
  Fun Tryz.prog 102 [.agg (cWindows v0), .val (.int .i64 v1)] (.ret (.agg (cSpan r))) := by
 unfold s_102m at h
 refine enterW 48 Tryz.func102 rfl rfl rfl ?_
 intro w0 F0
 change W _ _ (⟨[(0, .pv (.agg [.sl (List.map cSpan v0.own), .cache (List.map spanP v0.own)])), (1, .pv (.val (.int .i64 v1)))], [], []⟩ : Env) _
 refine W.seq ?_
 refine W.region ?_
 refine Ops.b (g_box rfl rfl rfl rfl rfl) rfl rfl ?_
 refine Ops.b (g_alloc rfl rfl rfl zr_57) rfl rfl ?_
 refine Ops.nil ?_
 refine Sq.n ?_
 refine W.seq ?_
 refine W.seq ?_
 refine W.region ?_
 refine Ops.v (g_fld rfl rfl rfl rfl fl_129_1) rfl ?_
 refine Ops.v (g_load1 rfl rfl rfl rfl rfl rfl ag_127) rfl ?_
 refine Ops.v (g_move rfl rfl rfl rfl) rfl ?_
 refine Ops.lookup rfl rfl rfl rfl rfl rfl mp_127 ui_3 za_57 ?_ ?_
 ·refine Ops.v (g_move rfl rfl rfl rfl) rfl ?_
  refine Ops.v (g_extract rfl rfl rfl rfl rfl) rfl ?_
  refine Ops.v (g_extract rfl rfl rfl rfl rfl) rfl ?_
  refine Ops.b (g_alloc rfl rfl rfl zr_57) rfl rfl ?_
  refine Ops.step rfl (s_storeB rfl rfl rfl rfl rfl rfl sz_57 rfl rfl) ?_
  refine Ops.v (g_assign rfl rfl rfl rfl) rfl ?_
  refine Ops.nil ?_
  refine Sq.n ?_
  refine W.seq ?_
  refine W.region ?_
  refine Ops.v (g_move rfl rfl rfl rfl) rfl ?_
  refine Ops.nil ?_
  refine Sq.n ?_
  refine W.cond (b := true) rfl (fun hc => ?_) (fun hc => ?_)
  ·refine W.seq ?_
   refine W.region ?_
   refine Ops.v (g_loadA rfl rfl rfl rfl rfl ag_57 sz_57 rfl rfl) rfl ?_
   refine Ops.step rfl (s_storeB rfl rfl rfl rfl rfl rfl sz_57 rfl rfl) ?_
   refine Ops.nil ?_
   refine Sq.n ?_
   refine W.ret ?_
   refine Sq.r ?_
   exact Fin.r rfl (.cons (.agg _ _ _ _ (cSpan (Span.mk ((commonOf (List.map spanP v0.own) v1).1) ((commonOf (List.map spanP v0.own) v1).2))) rfl rfl ag_57 sz_57) .nil) (by subst hr; rfl)
  ·exact absurd hc (by decide)
 ·refine Ops.v (g_move rfl rfl rfl rfl) rfl ?_
  refine Ops.v (g_extract rfl rfl rfl rfl rfl) rfl ?_
  refine Ops.v (g_extract rfl rfl rfl rfl rfl) rfl ?_
  refine Ops.b (g_alloc rfl rfl rfl zr_57) rfl rfl ?_
  refine Ops.step rfl (s_storeB rfl rfl rfl rfl rfl rfl sz_57 rfl rfl) ?_
  refine Ops.v (g_assign rfl rfl rfl rfl) rfl ?_
  refine Ops.nil ?_
  refine Sq.n ?_
  refine W.seq ?_
  refine W.region ?_
  refine Ops.v (g_move rfl rfl rfl rfl) rfl ?_
  refine Ops.nil ?_
  refine Sq.n ?_
  refine W.cond (b := false) rfl (fun hc => ?_) (fun hc => ?_)
  ·exact absurd hc (by decide)
  ·refine W.skip ?_
   refine Sq.n ?_
   refine W.seq ?_
   refine W.region ?_
   refine Ops.v (g_build (cs := (cSpan (Span.mk 0 12))) rfl rfl rfl zr_57 st_57 rfl rfl) rfl ?_
   refine Ops.b (g_alloc rfl rfl rfl zr_57) rfl rfl ?_
   refine Ops.step rfl (s_storeB rfl rfl rfl rfl rfl rfl sz_57 rfl rfl) ?_
   refine Ops.nil ?_
   refine Sq.n ?_
   refine W.seq ?_
   refine W.seq ?_
   refine W.region ?_
   refine Ops.v (g_fld rfl rfl rfl rfl fl_129_0) rfl ?_
   refine Ops.v (g_load1 rfl rfl rfl rfl rfl rfl ag_30) rfl ?_
   refine Ops.v (g_lenM (l := v0.own) (enc := cSpan) rfl ul_30 rfl rfl rfl) rfl ?_
   refine Ops.v (g_move rfl rfl rfl rfl) rfl ?_
   refine Ops.nil ?_
   refine Sq.n ?_
   refine W.block ?_
   refine W.loop (σ := Nat × Int × Span) (fun s => (⟨[(1, .pv (.val (.int .i64 v1))), (2, .box 2 0), (4, .box 4 0), (7, .box 7 0), (21, .pv (.sl (List.map cSpan v0.own))), (22, .pv (.val (.int .i64 ((List.length v0.own : Nat) : Int)))), (23, .pv (.val (.int .i64 s.2.1)))], [(2, 129, [.pv (.sl (List.map cSpan v0.own)), .pv (.cache (List.map spanP v0.own))]), (4, 57, [.pv (.val (.int .i64 0)), .pv (.val (.int .i64 0))]), (7, 57, [.pv (.val (.int .i64 s.2.2.low)), .pv (.val (.int .i64 s.2.2.high))])], []⟩ : Env)) (fun s => s_102m_l1 n v0 v1 s.1 s.2.1 s.2.2 = some r) (fun s => s.1) (n, 0, (Span.mk 0 12)) h (has_mk ⟨rfl, rfl, rfl, rfl, rfl, rfl, rfl, trivial⟩ ⟨rfl, rfl, rfl, trivial⟩ trivial rfl) ?_
   rintro ⟨k1, v103, v104⟩ h
   change s_102m_l1 n v0 v1 k1 v103 v104 = some r at h
   rcases k1 with _ | k1
   ·rw [s_102m_l1] at h
    cases h
   ·rw [s_102m_l1] at h
    change W _ _ (⟨[(1, .pv (.val (.int .i64 v1))), (2, .box 2 0), (4, .box 4 0), (7, .box 7 0), (21, .pv (.sl (List.map cSpan v0.own))), (22, .pv (.val (.int .i64 ((List.length v0.own : Nat) : Int)))), (23, .pv (.val (.int .i64 v103)))], [(2, 129, [.pv (.sl (List.map cSpan v0.own)), .pv (.cache (List.map spanP v0.own))]), (4, 57, [.pv (.val (.int .i64 0)), .pv (.val (.int .i64 0))]), (7, 57, [.pv (.val (.int .i64 v104.low)), .pv (.val (.int .i64 v104.high))])], []⟩ : Env) _
    refine W.seq ?_
    refine W.region ?_
    refine Ops.v (g_lss rfl rfl rfl rfl rfl) rfl ?_
    refine Ops.nil ?_
    refine Sq.n ?_
    refine W.seq ?_
    refine W.cond (b := (decide (v103 < ((List.length v0.own : Nat) : Int)))) rfl (fun hc => ?_) (fun hc => ?_)
    ·have h := bif_t h hc
     refine W.skip ?_
     refine Sq.n ?_
     refine W.seq ?_
     refine W.block ?_
     refine W.seq ?_
     refine W.region ?_
     refine Ops.v (g_move rfl rfl rfl rfl) rfl ?_
     obtain ⟨v107, e107, h⟩ := bind_some h
     refine Ops.v (g_idxI (l := v0.own) (enc := cSpan) e107 rfl rfl rfl rfl rfl el_30 rfl) rfl ?_
     refine Ops.v (g_loadRA rfl rfl rfl rfl ag_57 sz_57 rfl rfl) rfl ?_
     refine Ops.b (g_alloc rfl rfl rfl zr_57) rfl rfl ?_
     refine Ops.v (g_assign rfl rfl rfl rfl) rfl ?_
     refine Ops.step rfl (s_storeB rfl rfl rfl rfl rfl rfl sz_57 rfl rfl) ?_
     refine Ops.nil ?_
     refine Sq.n ?_
     refine W.seq ?_
     refine W.region ?_
     refine Ops.v (g_move rfl rfl rfl rfl) rfl ?_
     refine Ops.v (g_move rfl rfl rfl rfl) rfl ?_
     obtain ⟨v108, e108, h⟩ := bind_some h
     refine Ops.v (g_call rfl rfl rfl ca_145 rfl (c_145 _ _ _ e108)) rfl ?_
     refine Ops.nil ?_
     refine Sq.n ?_
     refine W.cond (b := v108) rfl (fun hc => ?_) (fun hc => ?_)
     ·have h := bif_t h hc
      refine W.region ?_
      refine Ops.v (g_fld rfl rfl rfl rfl fl_57_0) rfl ?_
      refine Ops.v (g_load1 rfl rfl rfl rfl rfl rfl ag_3) rfl ?_
      refine Ops.v (g_fld rfl rfl rfl rfl fl_57_0) rfl ?_
      refine Ops.v (g_load1 rfl rfl rfl rfl rfl rfl ag_3) rfl ?_
      refine Ops.v (g_max rfl rfl rfl rfl rfl) rfl ?_
      refine Ops.v (g_fld rfl rfl rfl rfl fl_57_1) rfl ?_
      refine Ops.v (g_load1 rfl rfl rfl rfl rfl rfl ag_3) rfl ?_
      refine Ops.v (g_fld rfl rfl rfl rfl fl_57_1) rfl ?_
      refine Ops.v (g_load1 rfl rfl rfl rfl rfl rfl ag_3) rfl ?_
      refine Ops.v (g_min rfl rfl rfl rfl rfl) rfl ?_
      refine Ops.v (g_build (cs := (cSpan (Span.mk (max v104.low v107.low) (min v104.high v107.high)))) rfl rfl rfl zr_57 st_57 rfl rfl) rfl ?_
      refine Ops.step rfl (s_storeB rfl rfl rfl rfl rfl rfl sz_57 rfl rfl) ?_
      refine Ops.nil ?_
      refine Bl.n ?_
      refine Sq.n ?_
      refine W.region ?_
      refine Ops.v (g_add rfl rfl rfl rfl rfl) rfl ?_
      refine Ops.v (g_move rfl rfl rfl rfl) rfl ?_
      refine Ops.nil ?_
      refine Sq.n ?_
      exact ⟨(k1, wr (v103 + 1), (Span.mk (max v104.low v107.low) (min v104.high v107.high))), h, Nat.lt_succ_self _, has_mk ⟨rfl, rfl, rfl, rfl, rfl, rfl, rfl, trivial⟩ ⟨rfl, rfl, rfl, trivial⟩ trivial rfl⟩
     ·have h := bif_f h hc
      refine W.skip ?_
      refine Bl.n ?_
      refine Sq.n ?_
      refine W.region ?_
      refine Ops.v (g_add rfl rfl rfl rfl rfl) rfl ?_
      refine Ops.v (g_move rfl rfl rfl rfl) rfl ?_
      refine Ops.nil ?_
      refine Sq.n ?_
      exact ⟨(k1, wr (v103 + 1), v104), h, Nat.lt_succ_self _, has_mk ⟨rfl, rfl, rfl, rfl, rfl, rfl, rfl, trivial⟩ ⟨rfl, rfl, rfl, trivial⟩ trivial rfl⟩
    ·have h := bif_f h hc
     refine W.exit ?_
     refine Sq.e ?_
     refine Sq.e ?_
     refine Bl.e ?_
     refine Sq.n ?_
     refine W.seq ?_
     refine W.region ?_
     refine Ops.v (g_fld rfl rfl rfl rfl fl_129_1) rfl ?_
     refine Ops.v (g_load1 rfl rfl rfl rfl rfl rfl ag_127) rfl ?_
     refine Ops.v (g_move rfl rfl rfl rfl) rfl ?_
     refine Ops.v (g_loadA rfl rfl rfl rfl rfl ag_57 sz_57 rfl rfl) rfl ?_
     refine Ops.step rfl (s_mapUpdate rfl rfl rfl rfl rfl (congrArg (fun s : Span => [PV.i s.low, PV.i s.high]) ((Option.some.inj h).trans hr)) mp_127 ui_3) ?_
     refine Ops.nil ?_
     refine Sq.n ?_
     refine W.seq ?_
     refine W.region ?_
     refine Ops.v (g_loadA rfl rfl rfl rfl rfl ag_57 sz_57 rfl rfl) rfl ?_
     refine Ops.step rfl (s_storeB rfl rfl rfl rfl rfl rfl sz_57 rfl rfl) ?_
     refine Ops.nil ?_
     refine Sq.n ?_
     refine W.ret ?_
     obtain rfl := Option.some.inj h
     exact Fin.r rfl (.cons (.agg _ _ _ _ (cSpan v104) rfl rfl ag_57 sz_57) .nil) rfl
def s_102 (n : Nat) (w : Windows) (set : Int) : Option Span :=
 (s_102m n w set).bind fun r => bif decide (r = ⟨(commonOf (List.map spanP w.own) set).1, (commonOf (List.map spanP w.own) set).2⟩) then some r else none
theorem c_102 (n : Nat) (w : Windows) (set : Int) {r : Span} (h : s_102 n w set = some r) : Fun Tryz.prog 102 [.agg (cWindows w), .val (.int .i64 set)] (.ret (.agg (cSpan r))) := by
 obtain ⟨r', h1, h2⟩ := bind_some h
 obtain ⟨h3, h4⟩ := bif_some h2
 cases h4
 exact c_102m n w set h1 (of_decide_eq_true h3)
end Go.Proofs.YtohmhlkdgfcaeaaGreatDoor
namespace Go.Proofs.YtohmhlkdgfcaeaaGreatDoor
open Go Go.RowKit
set_option maxRecDepth 4000
attribute [local irreducible] W Ops GS GSG
def s_120_l1 (n : Nat) (v0 : (List Filled)) (v1 : Batch) (v2 : Int) : Nat → Int → Bounds → Option (Bounds)
| 0, _, _ => none
| k1 + 1, v108, v109 => bif (decide (v108 < (v0.length : Int))) then ( (ix v0 v108).bind fun v117 => (s_118 n v1 v2 (fun z0 => s_85 n v117 z0)).bind fun v122 => (s_118 n v1 v2 (fun z0 => s_86 n v117 z0)).bind fun v123 => bif (decide (v108 = 0)) then ( (s_120_l1 n v0 v1 v2 k1) (wr (v108 + 1)) (Bounds.mk (Span.mk v123.rough v122.rough) (Span.mk v123.thick v122.thick)) ) else (
 (s_120_l1 n v0 v1 v2 k1) (wr (v108 + 1)) (Bounds.mk (Span.mk (min v109.rough.low v123.rough) (max v109.rough.high v122.rough)) (Span.mk (min v109.thick.low v123.thick) (max v109.thick.high v122.thick))) ) ) else ( some (v109) )
def s_120 (n : Nat) (v0 : (List Filled)) (v1 : Batch) (v2 : Int) : Option (Bounds) := s_120_l1 n v0 v1 v2 n 0 (Bounds.mk (Span.mk 0 0) (Span.mk 0 0))
theorem c_120 (n : Nat) (v0 : (List Filled)) (v1 : Batch) (v2 : Int) {r : (Bounds)} (h : s_120 n v0 v1 v2 = some r) :
  Fun Tryz.prog 120 [.sl (v0.map cFilled), .agg (cBatch v1), .val (.int .i64 v2)] (.ret (.agg (cBounds r))) := by
 unfold s_120 at h
 refine enterW 89 Tryz.func120 q q q ?_
 intro w0 F0
 change W _ _ (Ev [(0, .pv (.sl (List.map cFilled v0))), (1, .pv (.agg (cBatch v1))), (2, .pv (.i v2))]) _
 refine W.seq<|W.region<|ob (g_box q q q q q) q q<|ob (g_alloc q q q zr_71) q q<|on0<|Sq.n<|W.seq<|W.region<|ob (g_alloc q q q zr_71) q q<|on0<|Sq.n<|W.seq<|W.seq<|W.region<|vm q q q q q<|ov (g_lenM (l := v0) (enc := cFilled) q ul_111 q q q) q<|vm q q q q q<|on0<|Sq.n<|W.block<|W.loop (σ := Nat × Int × Bounds) (fun s => (⟨[(2, .pv (.i v2)), (4, .box 4 0), (6, .box 6 0), (7, .box 7 0), (14, .pv (.sl (List.map cFilled v0))), (15, .pv (.val (.int .i64 (v0.length : Int)))), (16, .pv (.i s.2.1))], [(4, 67, [.pv (.i v1.rough), .pv (.i v1.goal), .pv (.i v1.thick), .pv (.i v1.least), .pv (.i v1.polish), .pv (.i v1.eat)]), (6, 71, [.pv (.i 0), .pv (.i 0), .pv (.i 0), .pv (.i 0)]), (7, 71, [.pv (.i s.2.2.rough.low), .pv (.i s.2.2.rough.high), .pv (.i s.2.2.thick.low), .pv (.i s.2.2.thick.high)])], []⟩ : Env)) (fun s => s_120_l1 n v0 v1 v2 s.1 s.2.1 s.2.2 = some r) (fun s => s.1) (n, 0, (Bounds.mk (Span.mk 0 0) (Span.mk 0 0))) h (has_mk ⟨q, q, q, q, q, q, q, trivial⟩ ⟨q, q, q, trivial⟩ trivial q) ?_
 rintro ⟨k1, v108, v109⟩ h
 change s_120_l1 n v0 v1 v2 k1 v108 v109 = some r at h
 rcases k1 with _ | k1
 ·rw [s_120_l1] at h
  cases h
 ·rw [s_120_l1] at h
  change W _ _ (⟨[(2, .pv (.i v2)), (4, .box 4 0), (6, .box 6 0), (7, .box 7 0), (14, .pv (.sl (List.map cFilled v0))), (15, .pv (.val (.int .i64 (v0.length : Int)))), (16, .pv (.i v108))], [(4, 67, [.pv (.i v1.rough), .pv (.i v1.goal), .pv (.i v1.thick), .pv (.i v1.least), .pv (.i v1.polish), .pv (.i v1.eat)]), (6, 71, [.pv (.i 0), .pv (.i 0), .pv (.i 0), .pv (.i 0)]), (7, 71, [.pv (.i v109.rough.low), .pv (.i v109.rough.high), .pv (.i v109.thick.low), .pv (.i v109.thick.high)])], []⟩ : Env) _
  refine W.seq<|W.region<|ov (g_lss q q q q q) q<|on0<|Sq.n<|W.seq<|W.cond (b := (decide (v108 < (v0.length : Int)))) q (fun hc => ?_) (fun hc => ?_)
  ·have h := bif_t h hc
   refine W.skip<|Sq.n<|W.seq<|W.block<|W.seq<|W.region<|vm q q q q q ?_
   obtain ⟨v117, e117, h⟩ := bind_some h
   refine ov (g_idxI (l := v0) (enc := cFilled) e117 q q q q q el_111 q) q<|ov (g_loadRA q q q q ag_115 sz_115 q q) q<|ob (g_alloc q q q zr_115) q q<|va q q q q q<|Ops.step q (s_storeB q q q q q q sz_115 q q)<|on0<|Sq.n<|W.seq<|W.region<|ob (g_alloc q q q zr_186) q q<|on0<|Sq.n<|W.seq<|W.seq<|W.region<|ov (g_loadA q q q q q ag_115 sz_115 q q) q<|ov (g_makeFunc q q q q q) q<|ov (g_loadA q q q q q ag_115 sz_115 q q) q<|ov (g_makeFunc q q q q q) q<|ov (g_buildA (cs := [.fn 85 [.agg (cFilled v117)] [], .fn 86 [.agg (cFilled v117)] []]) q q q zr_187 ar_187 q q) q<|vm q q q q q<|on0<|Sq.n<|W.block<|W.rounds<|WL.round<|W.seq<|W.region<|ov (g_lss q q q q q) q<|on0<|Sq.n<|W.seq<|W.cond (b := true) q (fun hc => ?_) (fun hc => ?_)
   ·refine W.skip<|Sq.n<|W.seq<|W.block<|W.seq<|W.region<|vm q q q q q<|ov (g_index_a q q q q q ar_187 ag_116 (by decide) (by decide) q) q<|va q q q q q<|va q q q q q<|on0<|Sq.n<|W.region<|vm q q q q q<|ov (g_loadA q q q q q ag_67 sz_67 q q) q<|vm q q q q q<|vm q q q q q ?_
    obtain ⟨v122, e122, h⟩ := bind_some h
    refine ov (g_call q q q ca_118 q (c_118 _ _ _ _ ca_85 (fun _ y e => c_85 _ _ _ e) e122)) q<|ov (g_idxA q q q q q ar_186 (by decide) (by decide)) q<|Ops.step q (s_storeB q q q q q q sz_69 q q)<|on0<|Bl.n<|Sq.n<|W.region<|ov (g_add q q q q q) q<|vm q q q q q<|on0<|Sq.n<|WL.round<|W.seq<|W.region<|ov (g_lss q q q q q) q<|on0<|Sq.n<|W.seq<|W.cond (b := true) q (fun hc => ?_) (fun hc => ?_)
    ·refine W.skip<|Sq.n<|W.seq<|W.block<|W.seq<|W.region<|vm q q q q q<|ov (g_index_a q q q q q ar_187 ag_116 (by decide) (by decide) q) q<|va q q q q q<|va q q q q q<|on0<|Sq.n<|W.region<|vm q q q q q<|ov (g_loadA q q q q q ag_67 sz_67 q q) q<|vm q q q q q<|vm q q q q q ?_
     obtain ⟨v123, e123, h⟩ := bind_some h
     refine ov (g_call q q q ca_118 q (c_118 _ _ _ _ ca_86 (fun _ y e => c_86 _ _ _ e) e123)) q<|ov (g_idxA q q q q q ar_186 (by decide) (by decide)) q<|Ops.step q (s_storeB q q q q q q sz_69 q q)<|on0<|Bl.n<|Sq.n<|W.region<|ov (g_add q q q q q) q<|vm q q q q q<|on0<|Sq.n<|WL.round<|W.seq<|W.region<|ov (g_lss q q q q q) q<|on0<|Sq.n<|W.seq<|W.cond (b := false) q (fun hc => ?_) (fun hc => ?_)
     ·exact absurd hc (by decide)
     ·refine W.exit<|Sq.e<|Sq.e<|Bl.e<|Sq.n<|W.seq<|W.region<|ov (g_idxA q q q q q ar_186 (by decide) (by decide)) q<|ov (g_fld q q q q fl_69_0) q<|ov (g_load1 q q q q q q ag_3) q<|ov (g_idxA q q q q q ar_186 (by decide) (by decide)) q<|ov (g_fld q q q q fl_69_0) q<|ov (g_load1 q q q q q q ag_3) q<|ov (g_build (cs := (cSpan (Span.mk v123.rough v122.rough))) q q q zr_57 st_57 q q) q<|ov (g_idxA q q q q q ar_186 (by decide) (by decide)) q<|ov (g_fld q q q q fl_69_1) q<|ov (g_load1 q q q q q q ag_3) q<|ov (g_idxA q q q q q ar_186 (by decide) (by decide)) q<|ov (g_fld q q q q fl_69_1) q<|ov (g_load1 q q q q q q ag_3) q<|ov (g_build (cs := (cSpan (Span.mk v123.thick v122.thick))) q q q zr_57 st_57 q q) q<|ov (g_build (cs := (cBounds (Bounds.mk (Span.mk v123.rough v122.rough) (Span.mk v123.thick v122.thick)))) q q q zr_71 st_71 q q) q<|ob (g_alloc q q q zr_71) q q<|Ops.step q (s_storeB q q q q q q sz_71 q q)<|on0<|Sq.n<|W.seq<|W.seq<|W.region<|vm q q q q q<|ov (g_eql q q q q q) q<|on0<|Sq.n<|W.cond (b := (decide (v108 = 0))) q (fun hc => ?_) (fun hc => ?_)
      ·have h := bif_t h hc
       exact W.seq<|W.region<|ov (g_loadA q q q q q ag_71 sz_71 q q) q<|Ops.step q (s_storeB q q q q q q sz_71 q q)<|on0<|Sq.n<|W.exit<|Sq.e<|Bl.e<|Sq.n<|W.region<|ov (g_add q q q q q) q<|vm q q q q q<|on0<|Sq.n<|⟨(k1, wr (v108 + 1), (Bounds.mk (Span.mk v123.rough v122.rough) (Span.mk v123.thick v122.thick))), h, Nat.lt_succ_self _, has_mk ⟨q, q, q, q, q, q, q, trivial⟩ ⟨q, q, q, trivial⟩ trivial q⟩
      ·have h := bif_f h hc
       exact W.skip<|Sq.n<|W.seq<|W.region<|ov (g_fld q q q q fl_71_0) q<|ov (g_fld q q q q fl_57_0) q<|ov (g_load1 q q q q q q ag_3) q<|ov (g_fld q q q q fl_71_0) q<|ov (g_fld q q q q fl_57_0) q<|ov (g_load1 q q q q q q ag_3) q<|ov (g_min q q q q q) q<|ov (g_fld q q q q fl_71_0) q<|ov (g_fld q q q q fl_57_1) q<|ov (g_load1 q q q q q q ag_3) q<|ov (g_fld q q q q fl_71_0) q<|ov (g_fld q q q q fl_57_1) q<|ov (g_load1 q q q q q q ag_3) q<|ov (g_max q q q q q) q<|ov (g_build (cs := (cSpan (Span.mk (min v109.rough.low v123.rough) (max v109.rough.high v122.rough)))) q q q zr_57 st_57 q q) q<|ov (g_fld q q q q fl_71_0) q<|Ops.step q (s_storeB q q q q q q sz_57 q q)<|on0<|Sq.n<|W.region<|ov (g_fld q q q q fl_71_1) q<|ov (g_fld q q q q fl_57_0) q<|ov (g_load1 q q q q q q ag_3) q<|ov (g_fld q q q q fl_71_1) q<|ov (g_fld q q q q fl_57_0) q<|ov (g_load1 q q q q q q ag_3) q<|ov (g_min q q q q q) q<|ov (g_fld q q q q fl_71_1) q<|ov (g_fld q q q q fl_57_1) q<|ov (g_load1 q q q q q q ag_3) q<|ov (g_fld q q q q fl_71_1) q<|ov (g_fld q q q q fl_57_1) q<|ov (g_load1 q q q q q q ag_3) q<|ov (g_max q q q q q) q<|ov (g_build (cs := (cSpan (Span.mk (min v109.thick.low v123.thick) (max v109.thick.high v122.thick)))) q q q zr_57 st_57 q q) q<|ov (g_fld q q q q fl_71_1) q<|Ops.step q (s_storeB q q q q q q sz_57 q q)<|on0<|Bl.n<|Sq.n<|W.region<|ov (g_add q q q q q) q<|vm q q q q q<|on0<|Sq.n<|⟨(k1, wr (v108 + 1), (Bounds.mk (Span.mk (min v109.rough.low v123.rough) (max v109.rough.high v122.rough)) (Span.mk (min v109.thick.low v123.thick) (max v109.thick.high v122.thick)))), h, Nat.lt_succ_self _, has_mk ⟨q, q, q, q, q, q, q, trivial⟩ ⟨q, q, q, trivial⟩ trivial q⟩
    ·exact absurd hc (by decide)
   ·exact absurd hc (by decide)
  ·have h := bif_f h hc
   refine W.exit<|Sq.e<|Sq.e<|Bl.e<|Sq.n<|W.seq<|W.region<|ov (g_loadA q q q q q ag_71 sz_71 q q) q<|Ops.step q (s_storeB q q q q q q sz_71 q q)<|on0<|Sq.n<|W.ret ?_
   obtain rfl := Option.some.inj h
   exact Fin.r q (.cons (.agg _ _ _ _ (cBounds v109) q q ag_71 sz_71) .nil) q
def s_99 (n : Nat) (v0 : Windows) (v1 : Int) : Option (Bool) := (s_102 n v0 v1).bind fun v101 => some ((decide (v101.low ≤ v101.high)))
theorem c_99 (n : Nat) (v0 : Windows) (v1 : Int) {r : (Bool)} (h : s_99 n v0 v1 = some r) :
  Fun Tryz.prog 99 [.agg (cWindows v0), .val (.int .i64 v1)] (.ret (.b r)) := by
 unfold s_99 at h
 refine enterW 14 Tryz.func99 q q q ?_
 intro w0 F0
 change W _ _ (Ev [(0, .pv (.agg [.sl (List.map cSpan v0.own), .cache (List.map spanP v0.own)])), (1, .pv (.i v1))]) _
 refine W.seq<|W.region<|ob (g_box q q q q q) q q<|va q q q q q<|on0<|Sq.n<|W.seq<|W.region<|ov (g_loadA q q q q q ag_129 sz_129 q q) q<|vm q q q q q ?_
 obtain ⟨v101, e101, h⟩ := bind_some h
 refine ov (g_call q q q ca_102 q (c_102 _ _ _ e101)) q<|ob (g_alloc q q q zr_57) q q<|Ops.step q (s_storeB q q q q q q sz_57 q q)<|on0<|Sq.n<|W.seq<|W.region<|ov (g_fld q q q q fl_57_0) q<|ov (g_load1 q q q q q q ag_3) q<|ov (g_fld q q q q fl_57_1) q<|ov (g_load1 q q q q q q ag_3) q<|ov (g_leq q q q q q) q<|va q q q q q<|on0<|Sq.n<|W.ret ?_
 obtain rfl := Option.some.inj h
 exact Fin.r q (.cons (.tmp _ _ q) .nil) q
def s_41_l7 (K4 : ByteArray → Int → Int → Option (ByteArray)) (v178 : (List ByteArray)) (v201 : ByteArray) (v203 : Int) : Nat → Int → Int → Option (ByteArray)
| 0, _, _ => none
| k7 + 1, v221, v222 => (ix v178 v203).bind fun v226 => bif (decide (v222 < ((ByteArray.size v226 : Nat) : Int))) then ( (ix v178 v203).bind fun v227 => (ixs v227 v222).bind fun v228 => (s_41_l7 K4 v178 v201 v203 k7) (wr (v221 + (wr ((wr v228) * (wr (v222 + 1)))))) (wr (v222 + 1)) ) else ( (ix v178 v203).bind fun v229 => (cat v201 v229).bind fun v230 =>
 (cat v230 (ByteArray.mk #[10])).bind fun v231 => K4 v231 v221 (wr (v203 + 1)) )
def s_41_l4 (n : Nat) (v178 : (List ByteArray)) : Nat → ByteArray → Int → Int → Option (ByteArray)
| 0, _, _, _ => none
| k4 + 1, v201, v202, v203 => bif (decide (v203 < (v178.length : Int))) then ( s_41_l7 (s_41_l4 n v178 k4) v178 v201 v203 n v202 0 ) else ( (rem .i64 v202 103).bind fun v232 => (cat v201 (ByteArray.mk #[101, 110, 100, 32])).bind fun v233 => (quo .i64 v232 100).bind fun v234 => (s_112 n v234).bind fun v235 => (cat v233 v235).bind fun v236 => (quo .i64 v232 10).bind fun v237 =>
 (rem .i64 v237 10).bind fun v238 => (s_112 n v238).bind fun v239 => (cat v236 v239).bind fun v240 => (rem .i64 v232 10).bind fun v241 => (s_112 n v241).bind fun v242 => (cat v240 v242).bind fun v243 => (cat v243 (ByteArray.mk #[10])).bind fun v244 => some (v244) )
def s_41_l3 (n : Nat) (v0 : Drum) : Nat → Int → (List ByteArray) → Option (ByteArray)
| 0, _, _ => none
| k3 + 1, v177, v178 => bif (decide (v177 < (v0.batches.length : Int))) then ( (ix v0.batches v177).bind fun v183 => (s_111 n ([v183.rough, v183.goal, v183.thick, v183.least, v183.polish, v183.eat])).bind fun v184 => (cat (ByteArray.mk #[98, 97, 116, 99, 104]) v184).bind fun v185 => (app v178 ([v185])).bind fun v186 => (s_41_l3 n v0 k3) (wr (v177 + 1)) v186 ) else (
 s_41_l4 n v178 n (ByteArray.mk #[]) 0 0 )
def s_41_l2 (n : Nat) (v0 : Drum) : Nat → Int → (List ByteArray) → Option (ByteArray)
| 0, _, _ => none
| k2 + 1, v153, v154 => bif (decide (v153 < (v0.strips.length : Int))) then ( (ix v0.strips v153).bind fun v167 => (ix v0.strips v153).bind fun v168 => (ix v0.strips v153).bind fun v169 => (s_111 n ([v167.hour, v168.seen, v169.off])).bind fun v170 => (cat (ByteArray.mk #[115, 116, 114, 105, 112]) v170).bind fun v171 => (app v154 ([v171])).bind fun v172 =>
 (s_41_l2 n v0 k2) (wr (v153 + 1)) v172 ) else ( s_41_l3 n v0 n 0 v154 )
def s_41_l1 (n : Nat) (v0 : Drum) : Nat → Int → (List ByteArray) → Option (ByteArray)
| 0, _, _ => none
| k1 + 1, v119, v120 => bif (decide (v119 < (v0.acids.length : Int))) then ( (ix v0.acids v119).bind fun v131 => (s_111 n ([v131.strength.low, v131.strength.high])).bind fun v135 => (cat (ByteArray.mk #[97, 99, 105, 100]) v135).bind fun v136 => (cat v136 (ByteArray.mk #[32, 102, 97, 108, 108])).bind fun v137 => (s_111 n ([v131.fall.low, v131.fall.high])).bind fun v138 =>
 (cat v137 v138).bind fun v139 => (app v120 ([v139])).bind fun v140 => (s_41_l1 n v0 k1) (wr (v119 + 1)) v140 ) else ( (s_111 n v0.adds).bind fun v141 => (cat (ByteArray.mk #[97, 100, 100]) v141).bind fun v142 => (app v120 ([v142])).bind fun v143 => s_41_l2 n v0 n 0 v143 )
def s_41 (n : Nat) (v0 : Drum) : Option (ByteArray) := (s_111 n ([v0.hours])).bind fun v104 => (cat (ByteArray.mk #[100, 114, 117, 109]) v104).bind fun v105 => (cat v105 (ByteArray.mk #[32, 107, 110, 111, 119, 110])).bind fun v106 => (s_111 n ([v0.known])).bind fun v107 => (cat v106 v107).bind fun v108 => s_41_l1 n v0 n 0 ([v108])
theorem c_41 (n : Nat) (v0 : Drum) {r : (ByteArray)} (h : s_41 n v0 = some r) :
  Fun Tryz.prog 41 [.agg (cDrum v0)] (.ret (.s r)) := by
 unfold s_41 at h
 refine enterW 179 Tryz.func41 q q q ?_
 intro w0 F0
 change W _ _ (Ev [(0, .pv (.agg (cDrum v0)))]) _
 refine W.seq<|W.region<|ob (g_box q q q q q) q q<|va q q q q q<|on0<|Sq.n<|W.seq ?_
 obtain ⟨v104, e104, h⟩ := bind_some h
 obtain ⟨v105, e105, h⟩ := bind_some h
 obtain ⟨v106, e106, h⟩ := bind_some h
 obtain ⟨v107, e107, h⟩ := bind_some h
 refine W.draw (m := 10) Checked.mixed (Pre.v (GSG.of q (g_fld q q q q fl_27_2)) ((Pre.v (GSG.of q (g_load1 q q q q q q ag_3)) ((Pre.v (GSG.of q (g_buildSl (cs := [.val (.int .i64 v0.hours)]) (es := List.map eI [v0.hours]) q q q el_23 ⟨_, zr_3⟩ q q q q q q)) ((Pre.v (GSG.of q (g_call q q q ca_111 q (c_111 _ _ e104))) ((Pre.v (GSG.of q (g_catI e105 q q q q q)) ((Pre.v (GSG.of q (g_catI e106 q q q q q)) ((Pre.v (GSG.of q (g_fld q q q q fl_27_1)) ((Pre.v (GSG.of q (g_load1 q q q q q q ag_3)) ((Pre.v (GSG.of q (g_buildSl (cs := [.val (.int .i64 v0.known)]) (es := List.map eI [v0.known]) q q q el_23 ⟨_, zr_3⟩ q q q q q q)) ((Pre.v (GSG.of q (g_call q q q ca_111 q (c_111 _ _ e107))) (Pre.nil _)))))))))))))))))))) (by kernel_rfl) ?_
 obtain ⟨v108, e108, h⟩ := bind_some h
 refine ov (g_catI e108 q q q q q) q<|Ops.r (g_buildSlice (cs := [.s v108]) (es := List.map eS [v108]) q q q el_141 ⟨_, zr_9⟩ q q q q q q) q q<|va q q q q q<|on0<|Sq.n<|W.seq<|W.seq<|W.region<|va q q q q q<|on0<|Sq.n<|W.block<|W.loop (σ := Nat × Int × (List ByteArray)) (fun s => (⟨[(1, .box 1 0), (3, .row 24), (4, .pv (.i s.2.1))], [(1, 27, [.pv (.sl (List.map cAcid v0.acids)), .pv (.i v0.known), .pv (.i v0.hours), .pv (.sl (List.map eI v0.adds)), .pv (.sl (List.map cStrip v0.strips)), .pv (.sl (List.map cBatch v0.batches))])], [(24, ⟨9, 1, List.map eS s.2.2⟩)]⟩ : Env)) (fun s => s_41_l1 n v0 s.1 s.2.1 s.2.2 = some r) (fun s => s.1) (n, 0, [v108]) h (has_mk ⟨q, q, q, trivial⟩ ⟨q, trivial⟩ ⟨q, trivial⟩ q) ?_
 rintro ⟨k1, v119, v120⟩ h
 change s_41_l1 n v0 k1 v119 v120 = some r at h
 rcases k1 with _ | k1
 ·rw [s_41_l1] at h
  cases h
 ·rw [s_41_l1] at h
  change W _ _ (⟨[(1, .box 1 0), (3, .row 24), (4, .pv (.i v119))], [(1, 27, [.pv (.sl (List.map cAcid v0.acids)), .pv (.i v0.known), .pv (.i v0.hours), .pv (.sl (List.map eI v0.adds)), .pv (.sl (List.map cStrip v0.strips)), .pv (.sl (List.map cBatch v0.batches))])], [(24, ⟨9, 1, List.map eS v120⟩)]⟩ : Env) _
  refine W.seq<|W.seq<|W.region<|vm q q q q q<|ov (g_fld q q q q fl_27_0) q<|ov (g_load1 q q q q q q ag_22) q<|ov (g_lenM (l := v0.acids) (enc := cAcid) q ul_22 q q q) q<|ov (g_lss q q q q q) q<|on0<|Sq.n<|W.cond (b := (decide (v119 < (v0.acids.length : Int)))) q (fun hc => ?_) (fun hc => ?_)
  ·have h := bif_t h hc
   refine W.skip<|Sq.n<|W.seq<|W.block<|W.seq<|W.region<|ov (g_fld q q q q fl_27_0) q<|ov (g_load1 q q q q q q ag_22) q<|vm q q q q q ?_
   obtain ⟨v131, e131, h⟩ := bind_some h
   refine ov (g_idxI (l := v0.acids) (enc := cAcid) e131 q q q q q el_22 q) q<|ov (g_loadRA q q q q ag_137 sz_137 q q) q<|ob (g_alloc q q q zr_137) q q<|Ops.step q (s_storeB q q q q q q sz_137 q q)<|on0<|Sq.n ?_
   obtain ⟨v135, e135, h⟩ := bind_some h
   obtain ⟨v136, e136, h⟩ := bind_some h
   obtain ⟨v137, e137, h⟩ := bind_some h
   obtain ⟨v138, e138, h⟩ := bind_some h
   obtain ⟨v139, e139, h⟩ := bind_some h
   refine W.draw (m := 21) Checked.mixed (Pre.v (GSG.of q (g_move q q q q)) ((Pre.v (GSG.of q (g_fld q q q q fl_137_0)) ((Pre.v (GSG.of q (g_fld q q q q fl_57_0)) ((Pre.v (GSG.of q (g_load1 q q q q q q ag_3)) ((Pre.v (GSG.of q (g_fld q q q q fl_137_0)) ((Pre.v (GSG.of q (g_fld q q q q fl_57_1)) ((Pre.v (GSG.of q (g_load1 q q q q q q ag_3)) ((Pre.v (GSG.of q (g_buildSl (cs := [.val (.int .i64 v131.strength.low), .val (.int .i64 v131.strength.high)]) (es := List.map eI [v131.strength.low, v131.strength.high]) q q q el_23 ⟨_, zr_3⟩ q q q q q q)) ((Pre.v (GSG.of q (g_call q q q ca_111 q (c_111 _ _ e135))) ((Pre.v (GSG.of q (g_catI e136 q q q q q)) ((Pre.v (GSG.of q (g_catI e137 q q q q q)) ((Pre.v (GSG.of q (g_fld q q q q fl_137_1)) ((Pre.v (GSG.of q (g_fld q q q q fl_57_0)) ((Pre.v (GSG.of q (g_load1 q q q q q q ag_3)) ((Pre.v (GSG.of q (g_fld q q q q fl_137_1)) ((Pre.v (GSG.of q (g_fld q q q q fl_57_1)) ((Pre.v (GSG.of q (g_load1 q q q q q q ag_3)) ((Pre.v (GSG.of q (g_buildSl (cs := [.val (.int .i64 v131.fall.low), .val (.int .i64 v131.fall.high)]) (es := List.map eI [v131.fall.low, v131.fall.high]) q q q el_23 ⟨_, zr_3⟩ q q q q q q)) ((Pre.v (GSG.of q (g_call q q q ca_111 q (c_111 _ _ e138))) ((Pre.v (GSG.of q (g_catI e139 q q q q q)) ((Pre.r (GSG.of q (g_buildSlice (cs := [.s v139]) (es := List.map eS [v139]) q q q el_141 ⟨_, zr_9⟩ q q q q q q)) q (Pre.nil _)))))))))))))))))))))))))))))))))))))))))) (by kernel_rfl) ?_
   obtain ⟨v140, e140, h⟩ := bind_some h
   exact Ops.step q (s_appendR (enc := eS) e140 q q q q q q q q ex_141 (fun _ => q))<|va q q q q q<|on0<|Bl.n<|Sq.n<|W.region<|vm q q q q q<|ov (g_add q q q q q) q<|va q q q q q<|on0<|Sq.n<|⟨(k1, wr (v119 + 1), v140), h, Nat.lt_succ_self _, has_mk ⟨q, q, q, trivial⟩ ⟨q, trivial⟩ ⟨q, trivial⟩ q⟩
  ·have h := bif_f h hc
   refine W.exit<|Sq.e<|Sq.e<|Bl.e<|Sq.n<|W.seq<|W.region<|vm q q q q q<|ov (g_fld q q q q fl_27_3) q<|ov (g_load1 q q q q q q ag_23) q ?_
   obtain ⟨v141, e141, h⟩ := bind_some h
   refine ov (g_call q q q ca_111 q (c_111 _ _ e141)) q ?_
   obtain ⟨v142, e142, h⟩ := bind_some h
   refine ov (g_catI e142 q q q q q) q<|Ops.r (g_buildSlice (cs := [.s v142]) (es := List.map eS [v142]) q q q el_141 ⟨_, zr_9⟩ q q q q q q) q q ?_
   obtain ⟨v143, e143, h⟩ := bind_some h
   refine Ops.step q (s_appendR (enc := eS) e143 q q q q q q q q ex_141 (fun _ => q))<|va q q q q q<|on0<|Sq.n<|W.seq<|W.seq<|W.region<|va q q q q q<|on0<|Sq.n<|W.block<|W.loop (σ := Nat × Int × (List ByteArray)) (fun s => (⟨[(1, .box 1 0), (3, .row 24), (6, .pv (.i s.2.1))], [(1, 27, [.pv (.sl (List.map cAcid v0.acids)), .pv (.i v0.known), .pv (.i v0.hours), .pv (.sl (List.map eI v0.adds)), .pv (.sl (List.map cStrip v0.strips)), .pv (.sl (List.map cBatch v0.batches))])], [(24, ⟨9, 1, List.map eS s.2.2⟩)]⟩ : Env)) (fun s => s_41_l2 n v0 s.1 s.2.1 s.2.2 = some r) (fun s => s.1) (n, 0, v143) h (has_mk ⟨q, q, q, trivial⟩ ⟨q, trivial⟩ ⟨q, trivial⟩ q) ?_
   rintro ⟨k2, v153, v154⟩ h
   change s_41_l2 n v0 k2 v153 v154 = some r at h
   rcases k2 with _ | k2
   ·rw [s_41_l2] at h
    cases h
   ·rw [s_41_l2] at h
    change W _ _ (⟨[(1, .box 1 0), (3, .row 24), (6, .pv (.i v153))], [(1, 27, [.pv (.sl (List.map cAcid v0.acids)), .pv (.i v0.known), .pv (.i v0.hours), .pv (.sl (List.map eI v0.adds)), .pv (.sl (List.map cStrip v0.strips)), .pv (.sl (List.map cBatch v0.batches))])], [(24, ⟨9, 1, List.map eS v154⟩)]⟩ : Env) _
    refine W.seq<|W.seq<|W.region<|vm q q q q q<|ov (g_fld q q q q fl_27_4) q<|ov (g_load1 q q q q q q ag_24) q<|ov (g_lenM (l := v0.strips) (enc := cStrip) q ul_24 q q q) q<|ov (g_lss q q q q q) q<|on0<|Sq.n<|W.cond (b := (decide (v153 < (v0.strips.length : Int)))) q (fun hc => ?_) (fun hc => ?_)
    ·have h := bif_t h hc
     refine W.skip<|Sq.n<|W.seq<|W.block ?_
     obtain ⟨v167, e167, h⟩ := bind_some h
     obtain ⟨v168, e168, h⟩ := bind_some h
     obtain ⟨v169, e169, h⟩ := bind_some h
     obtain ⟨v170, e170, h⟩ := bind_some h
     obtain ⟨v171, e171, h⟩ := bind_some h
     refine W.draw (m := 23) Checked.mixed (Pre.v (GSG.of q (g_move q q q q)) ((Pre.v (GSG.of q (g_fld q q q q fl_27_4)) ((Pre.v (GSG.of q (g_load1 q q q q q q ag_24)) ((Pre.v (GSG.of q (g_move q q q q)) ((Pre.v (GSG.of q (g_idxI (l := v0.strips) (enc := cStrip) e167 q q q q q el_24 q)) ((Pre.v (GSG.of q (g_fldR q q q q fl_92_0 q)) ((Pre.v (GSG.of q (g_loadR1 q q q q q ag_3)) ((Pre.v (GSG.of q (g_fld q q q q fl_27_4)) ((Pre.v (GSG.of q (g_load1 q q q q q q ag_24)) ((Pre.v (GSG.of q (g_move q q q q)) ((Pre.v (GSG.of q (g_idxI (l := v0.strips) (enc := cStrip) e168 q q q q q el_24 q)) ((Pre.v (GSG.of q (g_fldR q q q q fl_92_1 q)) ((Pre.v (GSG.of q (g_loadR1 q q q q q ag_3)) ((Pre.v (GSG.of q (g_fld q q q q fl_27_4)) ((Pre.v (GSG.of q (g_load1 q q q q q q ag_24)) ((Pre.v (GSG.of q (g_move q q q q)) ((Pre.v (GSG.of q (g_idxI (l := v0.strips) (enc := cStrip) e169 q q q q q el_24 q)) ((Pre.v (GSG.of q (g_fldR q q q q fl_92_2 q)) ((Pre.v (GSG.of q (g_loadR1 q q q q q ag_3)) ((Pre.v (GSG.of q (g_buildSl (cs := [.val (.int .i64 v167.hour), .val (.int .i64 v168.seen), .val (.int .i64 v169.off)]) (es := List.map eI [v167.hour, v168.seen, v169.off]) q q q el_23 ⟨_, zr_3⟩ q q q q q q)) ((Pre.v (GSG.of q (g_call q q q ca_111 q (c_111 _ _ e170))) ((Pre.v (GSG.of q (g_catI e171 q q q q q)) ((Pre.r (GSG.of q (g_buildSlice (cs := [.s v171]) (es := List.map eS [v171]) q q q el_141 ⟨_, zr_9⟩ q q q q q q)) q (Pre.nil _)))))))))))))))))))))))))))))))))))))))))))))) (by kernel_rfl) ?_
     obtain ⟨v172, e172, h⟩ := bind_some h
     exact Ops.step q (s_appendR (enc := eS) e172 q q q q q q q q ex_141 (fun _ => q))<|va q q q q q<|on0<|Bl.n<|Sq.n<|W.region<|vm q q q q q<|ov (g_add q q q q q) q<|va q q q q q<|on0<|Sq.n<|⟨(k2, wr (v153 + 1), v172), h, Nat.lt_succ_self _, has_mk ⟨q, q, q, trivial⟩ ⟨q, trivial⟩ ⟨q, trivial⟩ q⟩
    ·have h := bif_f h hc
     refine W.exit<|Sq.e<|Sq.e<|Bl.e<|Sq.n<|W.seq<|W.seq<|W.region<|va q q q q q<|on0<|Sq.n<|W.block<|W.loop (σ := Nat × Int × (List ByteArray)) (fun s => (⟨[(1, .box 1 0), (3, .row 24), (7, .pv (.i s.2.1))], [(1, 27, [.pv (.sl (List.map cAcid v0.acids)), .pv (.i v0.known), .pv (.i v0.hours), .pv (.sl (List.map eI v0.adds)), .pv (.sl (List.map cStrip v0.strips)), .pv (.sl (List.map cBatch v0.batches))])], [(24, ⟨9, 1, List.map eS s.2.2⟩)]⟩ : Env)) (fun s => s_41_l3 n v0 s.1 s.2.1 s.2.2 = some r) (fun s => s.1) (n, 0, v154) h (has_mk ⟨q, q, q, trivial⟩ ⟨q, trivial⟩ ⟨q, trivial⟩ q) ?_
     rintro ⟨k3, v177, v178⟩ h
     change s_41_l3 n v0 k3 v177 v178 = some r at h
     rcases k3 with _ | k3
     ·rw [s_41_l3] at h
      cases h
     ·rw [s_41_l3] at h
      change W _ _ (⟨[(1, .box 1 0), (3, .row 24), (7, .pv (.i v177))], [(1, 27, [.pv (.sl (List.map cAcid v0.acids)), .pv (.i v0.known), .pv (.i v0.hours), .pv (.sl (List.map eI v0.adds)), .pv (.sl (List.map cStrip v0.strips)), .pv (.sl (List.map cBatch v0.batches))])], [(24, ⟨9, 1, List.map eS v178⟩)]⟩ : Env) _
      refine W.seq<|W.seq<|W.region<|vm q q q q q<|ov (g_fld q q q q fl_27_5) q<|ov (g_load1 q q q q q q ag_25) q<|ov (g_lenM (l := v0.batches) (enc := cBatch) q ul_25 q q q) q<|ov (g_lss q q q q q) q<|on0<|Sq.n<|W.cond (b := (decide (v177 < (v0.batches.length : Int)))) q (fun hc => ?_) (fun hc => ?_)
      ·have h := bif_t h hc
       refine W.skip<|Sq.n<|W.seq<|W.block<|W.seq<|W.region<|ov (g_fld q q q q fl_27_5) q<|ov (g_load1 q q q q q q ag_25) q<|vm q q q q q ?_
       obtain ⟨v183, e183, h⟩ := bind_some h
       refine ov (g_idxI (l := v0.batches) (enc := cBatch) e183 q q q q q el_25 q) q<|ov (g_loadRA q q q q ag_67 sz_67 q q) q<|ob (g_alloc q q q zr_67) q q<|Ops.step q (s_storeB q q q q q q sz_67 q q)<|on0<|Sq.n<|W.region<|vm q q q q q<|ov (g_fld q q q q fl_67_0) q<|ov (g_load1 q q q q q q ag_3) q<|ov (g_fld q q q q fl_67_1) q<|ov (g_load1 q q q q q q ag_3) q<|ov (g_fld q q q q fl_67_2) q<|ov (g_load1 q q q q q q ag_3) q<|ov (g_fld q q q q fl_67_3) q<|ov (g_load1 q q q q q q ag_3) q<|ov (g_fld q q q q fl_67_4) q<|ov (g_load1 q q q q q q ag_3) q<|ov (g_fld q q q q fl_67_5) q<|ov (g_load1 q q q q q q ag_3) q<|Ops.r (g_buildSlice (cs := [.val (.int .i64 v183.rough), .val (.int .i64 v183.goal), .val (.int .i64 v183.thick), .val (.int .i64 v183.least), .val (.int .i64 v183.polish), .val (.int .i64 v183.eat)]) (es := List.map eI [v183.rough, v183.goal, v183.thick, v183.least, v183.polish, v183.eat]) q q q el_23 ⟨_, zr_3⟩ q q q q q q) q q<|Ops.share (k := 122) q ?_
       obtain ⟨v184, e184, h⟩ := bind_some h
       refine ov (g_call q q q ca_111 q (c_111 _ _ e184)) q ?_
       obtain ⟨v185, e185, h⟩ := bind_some h
       refine ov (g_catI e185 q q q q q) q<|Ops.r (g_buildSlice (cs := [.s v185]) (es := List.map eS [v185]) q q q el_141 ⟨_, zr_9⟩ q q q q q q) q q ?_
       obtain ⟨v186, e186, h⟩ := bind_some h
       exact Ops.step q (s_appendR (enc := eS) e186 q q q q q q q q ex_141 (fun _ => q))<|va q q q q q<|on0<|Bl.n<|Sq.n<|W.region<|vm q q q q q<|ov (g_add q q q q q) q<|va q q q q q<|on0<|Sq.n<|⟨(k3, wr (v177 + 1), v186), h, Nat.lt_succ_self _, has_mk ⟨q, q, q, trivial⟩ ⟨q, trivial⟩ ⟨q, trivial⟩ q⟩
      ·have h := bif_f h hc
       refine W.exit<|Sq.e<|Sq.e<|Bl.e<|Sq.n<|W.seq<|W.region<|va q q q q q<|va q q q q q<|on0<|Sq.n<|W.seq<|W.seq<|W.region<|va q q q q q<|on0<|Sq.n<|W.block<|W.loop (σ := Nat × ByteArray × Int × Int) (fun s => (⟨[(3, .row 24), (9, .pv (.s s.2.1)), (10, .pv (.i s.2.2.1)), (11, .pv (.i s.2.2.2))], [], [(24, ⟨9, 1, List.map eS v178⟩)]⟩ : Env)) (fun s => s_41_l4 n v178 s.1 s.2.1 s.2.2.1 s.2.2.2 = some r) (fun s => s.1) (n, (ByteArray.mk #[]), 0, 0) h (has_mk ⟨q, q, q, q, trivial⟩ trivial ⟨q, trivial⟩ q) ?_
       rintro ⟨k4, v201, v202, v203⟩ h
       change s_41_l4 n v178 k4 v201 v202 v203 = some r at h
       rcases k4 with _ | k4
       ·rw [s_41_l4] at h
        cases h
       ·rw [s_41_l4] at h
        change W _ _ (⟨[(3, .row 24), (9, .pv (.s v201)), (10, .pv (.i v202)), (11, .pv (.i v203))], [], [(24, ⟨9, 1, List.map eS v178⟩)]⟩ : Env) _
        refine W.seq<|W.seq<|W.region<|vm q q q q q<|vm q q q q q<|ov (g_lenRM (l := v178) (enc := eS) q ul_141 q q q q) q<|ov (g_lss q q q q q) q<|on0<|Sq.n<|W.cond (b := (decide (v203 < (v178.length : Int)))) q (fun hc => ?_) (fun hc => ?_)
        ·have h := bif_t h hc
         refine W.skip<|Sq.n<|W.seq<|W.block<|W.seq<|W.seq<|W.region<|va q q q q q<|on0<|Sq.n<|W.block<|W.loop (σ := Nat × Int × Int) (fun s => (⟨[(3, .row 24), (9, .pv (.s v201)), (10, .pv (.i s.2.1)), (11, .pv (.i v203)), (12, .pv (.i s.2.2))], [], [(24, ⟨9, 1, List.map eS v178⟩)]⟩ : Env)) (fun s => s_41_l7 (s_41_l4 n v178 k4) v178 v201 v203 s.1 s.2.1 s.2.2 = some r) (fun s => s.1) (n, v202, 0) h (has_mk ⟨q, q, q, q, q, trivial⟩ trivial ⟨q, trivial⟩ q) ?_
         rintro ⟨k7, v221, v222⟩ h
         change s_41_l7 (s_41_l4 n v178 k4) v178 v201 v203 k7 v221 v222 = some r at h
         rcases k7 with _ | k7
         ·rw [s_41_l7] at h
          cases h
         ·rw [s_41_l7] at h
          change W _ _ (⟨[(3, .row 24), (9, .pv (.s v201)), (10, .pv (.i v221)), (11, .pv (.i v203)), (12, .pv (.i v222))], [], [(24, ⟨9, 1, List.map eS v178⟩)]⟩ : Env) _
          refine W.seq<|W.seq<|W.region<|vm q q q q q<|vm q q q q q<|vm q q q q q ?_
          obtain ⟨v226, e226, h⟩ := bind_some h
          refine ov (g_idxPI (l := v178) (enc := eS) e226 q q q q q q el_141) q<|ov (g_loadP1I (sz := 1) (l := v178) (enc := eS) 0 e226 q q q q q q ag_9) q<|ov (g_len_s (c := cLen) q us_9 q q q) q<|ov (g_lss q q q q q) q<|on0<|Sq.n<|W.cond (b := (decide (v222 < ((ByteArray.size v226 : Nat) : Int)))) q (fun hc => ?_) (fun hc => ?_)
          ·have h := bif_t h hc
           refine W.skip<|Sq.n<|W.seq<|W.block<|W.region<|vm q q q q q<|vm q q q q q<|vm q q q q q ?_
           obtain ⟨v227, e227, h⟩ := bind_some h
           refine ov (g_idxPI (l := v178) (enc := eS) e227 q q q q q q el_141) q<|ov (g_loadP1I (sz := 1) (l := v178) (enc := eS) 0 e227 q q q q q q ag_9) q<|vm q q q q q ?_
           obtain ⟨v228, e228, h⟩ := bind_some h
           exact ov (g_index_sI e228 q q q q q us_9) q<|ov (g_conv q q q q ⟨_, ui_5⟩ ui_3) q<|vm q q q q q<|ov (g_add q q q q q) q<|ov (g_mul q q q q q) q<|ov (g_add q q q q q) q<|va q q q q q<|on0<|Bl.n<|Sq.n<|W.region<|vm q q q q q<|ov (g_add q q q q q) q<|va q q q q q<|on0<|Sq.n<|⟨(k7, wr (v221 + (wr ((wr v228) * (wr (v222 + 1))))), wr (v222 + 1)), h, Nat.lt_succ_self _, has_mk ⟨q, q, q, q, q, trivial⟩ trivial ⟨q, trivial⟩ q⟩
          ·have h := bif_f h hc
           refine W.exit<|Sq.e<|Sq.e<|Bl.e<|Sq.n<|W.region<|vm q q q q q<|vm q q q q q<|vm q q q q q ?_
           obtain ⟨v229, e229, h⟩ := bind_some h
           refine ov (g_idxPI (l := v178) (enc := eS) e229 q q q q q q el_141) q<|ov (g_loadP1I (sz := 1) (l := v178) (enc := eS) 0 e229 q q q q q q ag_9) q ?_
           obtain ⟨v230, e230, h⟩ := bind_some h
           refine ov (g_catI e230 q q q q q) q ?_
           obtain ⟨v231, e231, h⟩ := bind_some h
           exact ov (g_catI e231 q q q q q) q<|va q q q q q<|on0<|Bl.n<|Sq.n<|W.region<|vm q q q q q<|ov (g_add q q q q q) q<|va q q q q q<|on0<|Sq.n<|⟨(k4, v231, v221, wr (v203 + 1)), h, Nat.lt_succ_self _, has_mk ⟨q, q, q, q, trivial⟩ trivial ⟨q, trivial⟩ q⟩
        ·have h := bif_f h hc
         refine W.exit<|Sq.e<|Sq.e<|Bl.e<|Sq.n<|W.seq<|W.region<|vm q q q q q ?_
         obtain ⟨v232, e232, h⟩ := bind_some h
         refine ov (g_remI e232 q q q q q) q<|va q q q q q<|on0<|Sq.n<|W.seq<|W.region<|vm q q q q q ?_
         obtain ⟨v233, e233, h⟩ := bind_some h
         refine ov (g_catI e233 q q q q q) q<|vm q q q q q ?_
         obtain ⟨v234, e234, h⟩ := bind_some h
         refine ov (g_quoI e234 q q q q q) q ?_
         obtain ⟨v235, e235, h⟩ := bind_some h
         refine ov (g_call q q q ca_112 q (c_112 _ _ e235)) q ?_
         obtain ⟨v236, e236, h⟩ := bind_some h
         refine ov (g_catI e236 q q q q q) q<|vm q q q q q ?_
         obtain ⟨v237, e237, h⟩ := bind_some h
         refine ov (g_quoI e237 q q q q q) q ?_
         obtain ⟨v238, e238, h⟩ := bind_some h
         refine ov (g_remI e238 q q q q q) q ?_
         obtain ⟨v239, e239, h⟩ := bind_some h
         refine ov (g_call q q q ca_112 q (c_112 _ _ e239)) q ?_
         obtain ⟨v240, e240, h⟩ := bind_some h
         refine ov (g_catI e240 q q q q q) q<|vm q q q q q ?_
         obtain ⟨v241, e241, h⟩ := bind_some h
         refine ov (g_remI e241 q q q q q) q ?_
         obtain ⟨v242, e242, h⟩ := bind_some h
         refine ov (g_call q q q ca_112 q (c_112 _ _ e242)) q ?_
         obtain ⟨v243, e243, h⟩ := bind_some h
         refine ov (g_catI e243 q q q q q) q ?_
         obtain ⟨v244, e244, h⟩ := bind_some h
         refine ov (g_catI e244 q q q q q) q<|va q q q q q<|on0<|Sq.n<|W.ret ?_
         obtain rfl := Option.some.inj h
         exact Fin.r q (.cons (.tmp _ _ q) .nil) q
def s_133_l1 (n : Nat) (v0 : (List Int)) (v1 : (List Int)) : Nat → Int → Option (Int)
| 0, _ => none
| k1 + 1, v104 => bif (decide (v104 < (v0.length : Int))) then ( (ix v0 v104).bind fun v108 => bif (decide ((v1.length : Int) ≤ v104)) then ( some (1) ) else ( (ix v1 v104).bind fun v109 => (s_169 n v108 v109).bind fun v110 => bif (!decide (v110 = 0)) then ( some (v110) ) else ( (s_133_l1 n v0 v1 k1) (wr (v104 + 1)) ) ) ) else (
 bif (decide ((v0.length : Int) < (v1.length : Int))) then ( some ((-1)) ) else ( some (0) ) )
def s_133 (n : Nat) (v0 : (List Int)) (v1 : (List Int)) : Option (Int) := s_133_l1 n v0 v1 n 0
theorem c_133 (n : Nat) (v0 : (List Int)) (v1 : (List Int)) {r : (Int)} (h : s_133 n v0 v1 = some r) :
  Fun Tryz.prog 133 [.sl (v0.map eI), .sl (v1.map eI)] (.ret (.val (.int .i64 r))) := by
 unfold s_133 at h
 refine enterW 36 Tryz.func133 q q q ?_
 intro w0 F0
 change W _ _ (Ev [(0, .pv (.sl (List.map eI v0))), (1, .pv (.sl (List.map eI v1)))]) _
 refine W.seq<|W.region<|va q q q q q<|on0<|Sq.n<|W.seq<|W.seq<|W.region<|vm q q q q q<|ov (g_lenM (l := v0) (enc := eI) q ul_23 q q q) q<|vm q q q q q<|on0<|Sq.n<|W.block<|W.loop (σ := Nat × Int) (fun s => (Ev [(0, .pv (.sl (List.map eI v0))), (1, .pv (.sl (List.map eI v1))), (9, .pv (.sl (List.map eI v0))), (10, .pv (.val (.int .i64 (v0.length : Int)))), (11, .pv (.i s.2))])) (fun s => s_133_l1 n v0 v1 s.1 s.2 = some r) (fun s => s.1) (n, 0) h (has_mk ⟨q, q, q, q, q, trivial⟩ trivial trivial q) ?_
 rintro ⟨k1, v104⟩ h
 change s_133_l1 n v0 v1 k1 v104 = some r at h
 rcases k1 with _ | k1
 ·rw [s_133_l1] at h
  cases h
 ·rw [s_133_l1] at h
  change W _ _ (Ev [(0, .pv (.sl (List.map eI v0))), (1, .pv (.sl (List.map eI v1))), (9, .pv (.sl (List.map eI v0))), (10, .pv (.val (.int .i64 (v0.length : Int)))), (11, .pv (.i v104))]) _
  refine W.seq<|W.region<|ov (g_lss q q q q q) q<|on0<|Sq.n<|W.seq<|W.cond (b := (decide (v104 < (v0.length : Int)))) q (fun hc => ?_) (fun hc => ?_)
  ·have h := bif_t h hc
   refine W.skip<|Sq.n<|W.seq<|W.block<|W.seq<|W.region<|vm q q q q q ?_
   obtain ⟨v108, e108, h⟩ := bind_some h
   refine ov (g_idxI (l := v0) (enc := eI) e108 q q q q q el_23 q) q<|ov (g_loadR1 q q q q q ag_3) q<|va q q q q q<|va q q q q q<|on0<|Sq.n<|W.seq<|W.seq<|W.region<|vm q q q q q<|vm q q q q q<|ov (g_lenM (l := v1) (enc := eI) q ul_23 q q q) q<|ov (g_geq q q q q q) q<|on0<|Sq.n<|W.cond (b := (decide ((v1.length : Int) ≤ v104))) q (fun hc => ?_) (fun hc => ?_)
   ·have h := bif_t h hc
    refine W.seq<|W.region<|va q q q q q<|on0<|Sq.n<|W.ret<|Sq.r<|Bl.r<|Sq.r<|Sq.r<|Bl.r<|Sq.r ?_
    obtain rfl := Option.some.inj h
    exact Fin.r q (.cons (.tmp _ _ q) .nil) q
   ·have h := bif_f h hc
    refine W.skip<|Sq.n<|W.seq<|W.region<|vm q q q q q<|vm q q q q q ?_
    obtain ⟨v109, e109, h⟩ := bind_some h
    refine ov (g_idxI (l := v1) (enc := eI) e109 q q q q q el_23 q) q<|ov (g_loadR1 q q q q q ag_3) q<|va q q q q q<|on0<|Sq.n<|W.seq<|W.region<|vm q q q q q<|vm q q q q q ?_
    obtain ⟨v110, e110, h⟩ := bind_some h
    refine ov (g_call q q q ca_169 q (c_169 _ _ _ e110)) q<|va q q q q q<|on0<|Sq.n<|W.seq<|W.region<|vm q q q q q<|ov (g_neq q q q q q) q<|on0<|Sq.n<|W.cond (b := (!decide (v110 = 0))) q (fun hc => ?_) (fun hc => ?_)
    ·have h := bif_t h hc
     refine W.seq<|W.region<|vm q q q q q<|va q q q q q<|on0<|Sq.n<|W.ret<|Bl.r<|Sq.r<|Sq.r<|Bl.r<|Sq.r ?_
     obtain rfl := Option.some.inj h
     exact Fin.r q (.cons (.tmp _ _ q) .nil) q
    ·have h := bif_f h hc
     exact W.skip<|Bl.n<|Sq.n<|W.region<|ov (g_add q q q q q) q<|vm q q q q q<|on0<|Sq.n<|⟨(k1, wr (v104 + 1)), h, Nat.lt_succ_self _, has_mk ⟨q, q, q, q, q, trivial⟩ trivial trivial q⟩
  ·have h := bif_f h hc
   refine W.exit<|Sq.e<|Sq.e<|Bl.e<|Sq.n<|W.seq<|W.seq<|W.region<|vm q q q q q<|ov (g_lenM (l := v0) (enc := eI) q ul_23 q q q) q<|vm q q q q q<|ov (g_lenM (l := v1) (enc := eI) q ul_23 q q q) q<|ov (g_lss q q q q q) q<|on0<|Sq.n<|W.cond (b := (decide ((v0.length : Int) < (v1.length : Int)))) q (fun hc => ?_) (fun hc => ?_)
   ·have h := bif_t h hc
    refine W.seq<|W.region<|va q q q q q<|on0<|Sq.n<|W.ret<|Sq.r ?_
    obtain rfl := Option.some.inj h
    exact Fin.r q (.cons (.tmp _ _ q) .nil) q
   ·have h := bif_f h hc
    refine W.skip<|Sq.n<|W.seq<|W.region<|va q q q q q<|on0<|Sq.n<|W.ret ?_
    obtain rfl := Option.some.inj h
    exact Fin.r q (.cons (.tmp _ _ q) .nil) q
def s_82 (n : Nat) : Option (Drum) := (s_81 n ).bind fun v101 => some ((Drum.mk v101.acids v101.known v101.hours v101.adds v101.strips ([(Batch.mk 200 60 300 100 100 50)])))
theorem c_82 (n : Nat)  {r : (Drum)} (h : s_82 n  = some r) :
  Fun Tryz.prog 82 [] (.ret (.agg (cDrum r))) := by
 unfold s_82 at h
 refine enterW 7 Tryz.func82 q q q ?_
 intro w0 F0
 change W _ _ (Ev []) _
 refine W.seq<|W.region<|ob (g_alloc q q q zr_27) q q<|on0<|Sq.n<|W.seq<|W.region ?_
 obtain ⟨v101, e101, h⟩ := bind_some h
 refine ov (g_call q q q ca_81 q (c_81 _  e101)) q<|ob (g_alloc q q q zr_27) q q<|Ops.step q (s_storeB q q q q q q sz_27 q q)<|on0<|Sq.n<|W.seq<|W.region<|ov (g_build (cs := (cBatch (Batch.mk 200 60 300 100 100 50))) q q q zr_67 st_67 q q) q<|Ops.r (g_buildSlice (cs := [.val (.int .i64 200), .val (.int .i64 60), .val (.int .i64 300), .val (.int .i64 100), .val (.int .i64 100), .val (.int .i64 50)]) (es := List.map cBatch [(Batch.mk 200 60 300 100 100 50)]) q q q el_25 ⟨_, zr_67⟩ q q q q q q) q q<|ov (g_fld q q q q fl_27_5) q<|Ops.step q (s_storeB q q q q q q sz_25 q q)<|on0<|Sq.n<|W.seq<|W.region<|Ops.share (k := 4) q<|ov (g_loadA q q q q q ag_27 sz_27 q q) q<|Ops.step q (s_storeB q q q q q q sz_27 q q)<|on0<|Sq.n<|W.ret ?_
 obtain rfl := Option.some.inj h
 exact Fin.r q (.cons (.agg _ _ _ _ (cDrum (Drum.mk v101.acids v101.known v101.hours v101.adds v101.strips ([(Batch.mk 200 60 300 100 100 50)]))) q q ag_27 sz_27) .nil) q
end Go.Proofs.YtohmhlkdgfcaeaaGreatDoor
