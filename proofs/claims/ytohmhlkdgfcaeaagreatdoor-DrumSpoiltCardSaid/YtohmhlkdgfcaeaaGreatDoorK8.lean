/- What all claims of this seat share, part 8: the engine, the contracts, the frame. -/
import Derived.KernelRfl
import Derived.ProofKit
import Derived.Carry
import Derived.Deep.Slices
import Derived.Test.YtohmhlkdgfcaeaaGreatDoorRows
import Derived.Lib.LaidU8
import Derived.Lay
import Derived.LaidMore
import Derived.OpenShut
import Derived.Stop.Joined
import Derived.SevenTiedAt
import Derived.Test.YtohmhlkdgfcaeaaGreatDoorK7
set_option linter.unusedVariables false
set_option linter.unusedSimpArgs false
namespace Go.Proofs.YtohmhlkdgfcaeaaGreatDoor
open Go Go.RowKit
def s_125l (n : Nat) (now : List Int) (f : List Int → List (List Int) → Option (List (List Int))) (m : Int) : Nat → Int → List (List Int) → Option (List (List Int))
 | 0, _, _ => none
 | j + 1, i, all => bif decide (i < m) then
   (s_97 n now).bind fun c => (app c [i]).bind fun nx => (f nx all).bind fun all' => s_125l n now f m j (wr (i + 1)) all'
  else some all
def s_125 (n : Nat) (w : Windows) (d : Drum) : Nat → List Int → List (List Int) → Option (List (List Int))
 | 0, _, _ => none
 | k + 1, now, all => (s_123 n w now).bind fun b => bif !b then some all else
   bif decide (((now.length : Nat) : Int) = ((d.batches.length : Nat) : Int)) then app all [now] else
    (s_126 n now).bind fun r => s_125l n now (s_125 n w d k) (wr (((r.1.length : Nat) : Int) + 1)) n 0 all
def s_51 (n : Nat) (d : Drum) : Option (List Int × Int × Int) :=
 (s_84 n d true).bind fun r => bif !decide (r.2 = 0) then some ([], 0, r.2) else
  (s_98 n d r.1).bind fun w => (s_124 n w).bind fun b => bif !b then some ([], 0, 5) else
   (s_125 n w d n [] []).bind fun all => (s_129 n all (fun x y => s_130 n x y (fun z => s_127 n z))).bind fun o => (s_127 n o.1).bind fun m => some (o.1, m, 0)
set_option maxRecDepth 4000
attribute [local irreducible] W GS GSG
theorem sz151 : SzIs Tryz.prog 151 1 := SzIs.mk (by kernel_rfl)
theorem ag152 : AggIs Tryz.prog 152 false := AggIs.mk (by kernel_rfl)
def fv125 (b8 : Nat) (p7 p1 p9 : Value) : Value := .func (.func 125) #[] #[p7, p1, .pointer (some ⟨b8, 0, none⟩), p9]
structure K125 (wn : Windows) (d : Drum) (w0 : World) (F0 : Foot) (b8 : Nat) (p7 p1 p9 : Value) (all : List (List Int)) (W : World) (F : Foot) : Prop where
 rel : ∃ g a, Rel w0 F0 42 g F ⟨[], [(8, 151, [.row 800])], [(800, ⟨23, 1, all.map (eL eI)⟩)]⟩ a W ∧ g.bx 8 = some b8
 r7 : Rd W F (.ref (cWindows wn)) p7
 r1 : Rd W F (.ref (cDrum d)) p1
 r9 : Rd W F (.ref [.pin (fv125 b8 p7 p1 p9) .junk]) p9
section
variable {wn : Windows} {d : Drum} {w0 : World} {F0 : Foot} {b8 : Nat} {p7 p1 p9 : Value} {all : List (List Int)} {W W' : World} {F F' : Foot}
theorem K125.ok (h : K125 wn d w0 F0 b8 p7 p1 p9 all W F) : F.ok W := by obtain ⟨g, a, hr, _⟩ := h.rel; exact hr.ok
theorem K125.ext (h : K125 wn d w0 F0 b8 p7 p1 p9 all W F) (hx : Ext F W W') (hl : F.le F' W.heap.size) (hk : F'.ok W') : K125 wn d w0 F0 b8 p7 p1 p9 all W' F' := by
 have ok := h.ok
 obtain ⟨⟨g, a, hr, hb⟩, h7, h1, h9⟩ := h
 exact ⟨⟨g, a, hr.call hx hl hk, hb⟩, h7.ext hx ok hl, h1.ext hx ok hl, h9.ext hx ok hl⟩
end
theorem wpIn_gen9 {F : Fence} {n : Nat} {P : Program} {c : Code} {Q : Exit → Act → World → Prop} {a : Act} {w : World} {Pr : Act → Prop} (h0 : Pr a) (h : ∀ a, Pr a → c.wpIn F n P Q a w) : c.wpIn F n P Q a w := h a h0
theorem c_125 (n : Nat) (wn : Windows) (d : Drum) {w0 : World} {F0 : Foot} {b8 : Nat} {p7 p1 p9 : Value} : ∀ (k : Nat) (now : List Int) (all all' : List (List Int)), s_125 n wn d k now all = some all' →
  ∀ (W : World) (F : Foot) (v : Value), K125 wn d w0 F0 b8 p7 p1 p9 all W F → Rd W F (.sl (now.map eI)) v →
   Calls Tryz.prog 125 #[v, p7, p1, .pointer (some ⟨b8, 0, none⟩), p9] W fun e W' => (∃ v, e = .returned v) ∧ ∃ F', K125 wn d w0 F0 b8 p7 p1 p9 all' W' F' ∧ ∀ x v, Rd W F x v → Rd W' F' x v := by
 intro k
 induction k with
 | zero => intro now all all' h; cases h
 | succ k ih =>
 intro now all all' h W F v hK hv
 rw [s_125] at h
 obtain ⟨b, eb, h⟩ := bind_some h
 refine callsIn_wide.1 (callsIn_of_wp (F := Fence.wide) (n := 0) Tryz.func125 rfl trivial ?_)
 refine wpIn_gen9 (Pr := fun a => a.tmps.size = 42 ∧ a.tmps[0]? = some v ∧ a.tmps[1]? = some p7 ∧ a.tmps[2]? = some p1 ∧ a.tmps[3]? = some (.pointer (some ⟨b8, 0, none⟩)) ∧ a.tmps[4]? = some p9 ∧ a.defers = []) ⟨by simp [Tryz.ntmps125], by simp, by simp, by simp, by simp, by simp, rfl⟩ ?_
 rintro a ⟨hs, e0, e1, e2, e3, e4, hd⟩
 refine wpIn_seq ?_
 refine wpIn_seq ?_
 refine wide_reg (X := ⟨Tryz.prog, W, F, 42⟩) (E := ⟨[(0, .pv (.sl (now.map eI))), (1, .pv (.ref (cWindows wn)))], [], []⟩) (K := fun E' => E'.has (⟨[(12, .pv (.b (!b)))], [], []⟩ : Env)) [0, 1, 2, 3, 4] rfl (Rel.start hK.ok hd hs (slots_ok ?_)) ?_ ?_
 ·intro q hq
  simp only [List.mem_cons, List.not_mem_nil, or_false] at hq
  rcases hq with rfl | rfl
  ·exact ⟨_, e0, hv⟩
  ·exact ⟨_, e1, hK.r7⟩
 ·refine Ops.v (g_loadRA rfl rfl rfl rfl ag_129 sz_129 rfl rfl) rfl ?_
  refine Ops.v (g_move rfl rfl rfl rfl) rfl ?_
  refine Ops.v (g_call rfl rfl rfl ca_123 rfl (c_123 _ _ _ eb)) rfl ?_
  refine Ops.v (g_not rfl rfl rfl rfl) rfl ?_
  refine Ops.nil ?_
  exact has_mk ⟨rfl, trivial⟩ trivial trivial rfl
 rintro a1 w1 g1 F1 E1 hr1 hK1 hkeep1
 obtain ⟨g1', hr1'⟩ := hr1.weaken hK1
 have x12 := rel_val hr1' (t := 12) rfl
 have up1 : ∀ x v, Rd W F x v → Rd w1 F1 x v := fun x v h => h.ext hr1.ext hK.ok hr1.le
 have hKa : K125 wn d w0 F0 b8 p7 p1 p9 all w1 F1 := hK.ext hr1.ext hr1.le hr1.ok
 have s0 := (hkeep1 0 (by simp)).trans e0
 have s1 := (hkeep1 1 (by simp)).trans e1
 have s2 := (hkeep1 2 (by simp)).trans e2
 have s3 := (hkeep1 3 (by simp)).trans e3
 have s4 := (hkeep1 4 (by simp)).trans e4
 have hs1 := hr1.sz
 have hd1 := hr1.dfr
 have hv1 := up1 _ _ hv
 clear e0 e1 e2 e3 e4 hs hd hr1 hr1' hK1 hkeep1 g1 g1' E1
 cases b with
 | false =>
  have h := bif_t h rfl
  cases h
  refine wpIn_cond_true (by simp [Act.eval, Array.getD_eq_getD_getElem?, x12]) ?_
  refine wpIn_ret ?_
  exact ⟨hd1, .tuple #[], by simp [results, Tryz.results125], ⟨_, rfl⟩, F1, hKa, up1⟩
 | true =>
 have h := bif_f h rfl
 refine wpIn_cond_false (by simp [Act.eval, Array.getD_eq_getD_getElem?, x12]) ?_
 refine wpIn_skip ?_
 show Code.wpIn Fence.wide 0 Tryz.prog (.seq _ _) _ _ _
 refine wpIn_seq ?_
 refine wpIn_seq ?_
 refine wide_reg (X := ⟨Tryz.prog, w1, F1, 42⟩) (E := ⟨[(0, .pv (.sl (now.map eI))), (2, .pv (.ref (cDrum d)))], [], []⟩) (K := fun E' => E'.has (⟨[(18, .pv (.b (decide (((now.length : Nat) : Int) = ((d.batches.length : Nat) : Int)))))], [], []⟩ : Env)) [0, 3, 4] rfl (Rel.start hKa.ok hd1 hs1 (slots_ok ?_)) ?_ ?_
 ·intro q hq
  simp only [List.mem_cons, List.not_mem_nil, or_false] at hq
  rcases hq with rfl | rfl
  ·exact ⟨_, s0, hv1⟩
  ·exact ⟨_, s2, hKa.r1⟩
 ·refine Ops.v (g_move rfl rfl rfl rfl) rfl ?_
  refine Ops.v (g_lenM (l := now) (enc := eI) rfl ul_23 rfl rfl rfl) rfl ?_
  refine Ops.v (g_fldR rfl rfl rfl rfl fl_27_5 rfl) rfl ?_
  refine Ops.v (g_loadR1 rfl rfl rfl rfl rfl ag_25) rfl ?_
  refine Ops.v (g_lenM (l := d.batches) (enc := cBatch) rfl ul_25 rfl rfl rfl) rfl ?_
  refine Ops.v (g_eql rfl rfl rfl rfl rfl) rfl ?_
  refine Ops.nil ?_
  exact has_mk ⟨rfl, trivial⟩ trivial trivial rfl
 rintro a2 w2 g2 F2 E2 hr2 hK2 hkeep2
 obtain ⟨g2', hr2'⟩ := hr2.weaken hK2
 have x18 := rel_val hr2' (t := 18) rfl
 have up2 : ∀ x v, Rd W F x v → Rd w2 F2 x v := fun x v h => (up1 _ _ h).ext hr2.ext hKa.ok hr2.le
 have hKb : K125 wn d w0 F0 b8 p7 p1 p9 all w2 F2 := hKa.ext hr2.ext hr2.le hr2.ok
 have t0 := (hkeep2 0 (by simp)).trans s0
 have t3 := (hkeep2 3 (by simp)).trans s3
 have t4 := (hkeep2 4 (by simp)).trans s4
 have hs2 : a2.tmps.size = 42 := hr2.sz
 have hd2 := hr2.dfr
 have hv2 := up2 _ _ hv
 clear s0 s1 s2 s3 s4 hs1 hd1 hr2 hr2' hK2 hkeep2 g2 g2' E2 hv1 hKa up1 x12 hv hK
 cases hc : decide (((now.length : Nat) : Int) = ((d.batches.length : Nat) : Int)) with
 | true =>
  rw [hc] at x18
  have h := bif_t h hc
  refine wpIn_cond_true (by simp [Act.eval, Array.getD_eq_getD_getElem?, x18]) ?_
  obtain ⟨⟨g, ax, hr, hb8⟩, q7, q1, q9⟩ := hKb
  obtain ⟨happ1, rfl⟩ := app_eq h
  obtain ⟨bb, us8, x1, x2, x3, x4, _⟩ := hr.bs 8 _ _ rfl
  rw [hb8] at x1
  cases x1
  obtain ⟨v0, inner, r1, r2, r3, r4⟩ := hr.rs 800 _ rfl
  obtain rfl : us8 = #[v0] := by
   have h1 : us8.size = 1 := x3
   have h2 := x4 0 _ us8[0] rfl (Array.getElem?_eq_getElem (by omega))
   have h3 : us8[0] = v0 := Option.some.inj (h2.symm.trans r1)
   apply Array.ext (by simp [h1])
   intro i h1 h2
   simp at h2
   subst h2
   exact h3
  have hrA : Rel w0 F0 42 g F2 ⟨[(0, .pv (.sl (now.map eI))), (3, .box 8 0)], [(8, 151, [.row 800])], [(800, ⟨23, 1, all.map (eL eI)⟩)]⟩ a2 w2 := hr.slots hd2 hs2 (slots_ok (fun q hq => by
   simp only [List.mem_cons, List.not_mem_nil, or_false] at hq
   rcases hq with rfl | rfl
   ·exact ⟨_, t0, hv2⟩
   ·exact ⟨_, t3, b8, hb8, rfl⟩))
  have e3 : a2.eval (.tmp 3) = .pointer (some ⟨b8, 0, none⟩) := by simp [Act.eval, Array.getD_eq_getD_getElem?, t3]
  have e0 : a2.eval (.tmp 0) = v := by simp [Act.eval, Array.getD_eq_getD_getElem?, t0]
  refine wpIn_seq ?_
  refine wpIn_wide.2 (wp_region_lit ?_)
  refine wpList_val (v := v0) (w' := w2) rfl rfl (run_load_cell ag_151 x2 e3) ?_
  refine wpList_val (v := v) (w' := w2) rfl rfl ?_ ?_
  ·have e0' : (a2.put (some 19) v0).eval (.tmp 0) = v := by rw [ev_ne (by decide)]; exact e0
   simp only [execOp, e0']
   rfl
  have hrB := (hrA.put (d := 19) (v := .row 800) (u := v0) (by decide) r1).put (d := 20) (v := .pv (.sl (now.map eI))) (u := v) (by decide) hv2
  obtain ⟨us, c1, c2, c3⟩ := run_buildSlice (X := ⟨Tryz.prog, w0, F0, 42⟩) (o := { (default : Oper) with op := .buildSlice 151 1 #[(0, .tmp 20)] }) hrB (parts := [(0, .tmp 20)]) (es := [eL eI now]) (t := 151) (e := 23) (sz := 1) (n := 1) rfl el_151 ⟨_, zr_23⟩ rfl rfl rfl rfl rfl
  refine wpList_val rfl rfl c1 ?_
  have hrC := (hrB.alloc (.cells us 23)).put (d := 21) (v := .pv .junk) (u := .slice (some ⟨w2.heap.size, 0, none⟩) 1 1) (by decide) (Rd.junk _)
  obtain ⟨v0', inner', m1, m2, m3, m4⟩ := hrC.rs 800 _ rfl
  obtain rfl : v0 = v0' := Option.some.inj (r1.symm.trans m1)
  have hone : ∀ u ∈ us.toList, u.oneCell' = true := fun u hu => by
   obtain ⟨j, hj⟩ := List.getElem?_of_mem hu
   have hjl : j < 1 := by have := (List.getElem?_eq_some_iff.1 hj).1; simp at this; omega
   have hjc : j < (eL eI now).length := hjl
   exact (rd_one (c2.2.2 0 (eL eI now) j (eL eI now)[j] u rfl (List.getElem?_eq_getElem hjc) (by simpa using hj)) (List.all_eq_true.1 (show (eL eI now).all PV.one = true from rfl) _ (List.getElem_mem hjc))).1
  obtain ⟨v', w', n1, n2, n3, n4⟩ := run_append_any (P := Tryz.prog) (ty := 151) ex_151 m2 (A := some ⟨w2.heap.size, 0, none⟩) (m := 1) (cap := 1) (news := us.toList) (by simpa using c3) hone
   (fun _ => ⟨⟨w2.heap.size, 0, none⟩, rfl, fun j u hj => by
    rw [addr_block, cell_of_row _ _ j us 23 (0, 0) (heap_alloc_new w2 _)]
    simpa using hj⟩) (by simpa using happ1) hrC.ext.size
  refine wpList_val (v := v') (w' := w') rfl rfl ?_ ?_
  ·have e19 : ((((a2.put (some 19) v0).put (some 20) v).put (some 21) (.slice (some ⟨w2.heap.size, 0, none⟩) 1 1))).eval (.tmp 19) = v0 := by
    rw [ev_ne (by decide), ev_ne (by decide)]; exact ev_same (by omega)
   have e21 : ((((a2.put (some 19) v0).put (some 20) v).put (some 21) (.slice (some ⟨w2.heap.size, 0, none⟩) 1 1))).eval (.tmp 21) = .slice (some ⟨w2.heap.size, 0, none⟩) 1 1 := ev_same (by simp [Act.put]; omega)
   simp only [execOp, resolve, invoke, builtin, Sem.run_bind, Sem.run_pure, Result.andThen_ok, List.map_toArray, List.map_cons, List.map_nil, e19, e21, n1]
  have tg := turns_grown (X := ⟨Tryz.prog, w0, F0, 42⟩) hrC m1 n3
  have ta := Turns.alloc (F := F2) hrB.ext (.cells us 23)
  have hrD := (hrC.setrow (R' := ⟨23, 1, (all ++ [now]).map (eL eI)⟩) (inner' := inner' ++ us.toList) rfl m1 tg (by simpa using n2)
   (by rw [List.map_append]; exact flat_app m3 (ta.flat c2)) n4).put (d := 22) (v := .row 800) (u := v') (by decide) (show (if (800 : Nat) = 800 then some v' else g.rw 800) = some v' from if_pos rfl)
  have hb6 : w'.heap[b8]? = some (.cells #[v0] 151 (0, 0)) := by
   have hlt : b8 < w2.heap.size := (Array.getElem?_eq_some_iff.1 x2).1
   rw [n3.block b8 (by rw [World.size_alloc]; omega) (fun e => hr.rb 800 8 v0 b8 r1 e.symm hb8), heap_alloc_old _ _ hlt]
   exact x2
  have hv' : v'.cells = #[v'] ∧ v'.oneCell' = true := by
   rcases n2.2 with ⟨rfl, _⟩ | ⟨_, _, _, rfl, _⟩ <;> exact ⟨rfl, rfl⟩
  refine wpList_none (w' := w'.setRow b8 #[v']) rfl rfl (run_store1 (x := .tmp 3) (y := .tmp 22) sz151 w' b8 v0 151 hb6 (by rw [ev_ne (by decide), ev_ne (by decide), ev_ne (by decide), ev_ne (by decide)]; exact e3) (ev_same (by simp [Act.put]; omega)) rfl hv'.1 hv'.2) ?_
  obtain ⟨tu1, tu2⟩ := setRow_turns (w0 := w0) (F := F2) (cs := #[v']) hb6 (hr.bx_lt hb8).2.1 (hr.bx_lt hb8).2.2 (hr.bx_m hb8)
  have hrE := hrD.setbox (k := 8) (b := b8) (cs' := [.row 800]) (us' := #[v']) rfl hb8 tu1 tu2 rfl (fun j c u hc hu => by
   match j with
   | 0 => cases hc; cases hu; exact (show (if (800 : Nat) = 800 then some v' else g.rw 800) = some v' from if_pos rfl)
   | j + 1 => cases hc)
  obtain ⟨g5, hr6⟩ := hrE.weaken (E' := ⟨[(3, .box 8 0)], [(8, 151, [.row 800])], [(800, ⟨23, 1, (all ++ [now]).map (eL eI)⟩)]⟩) (has_mk ⟨rfl, trivial⟩ ⟨rfl, trivial⟩ ⟨rfl, trivial⟩ rfl)
  have up3 : ∀ x v, Rd w2 F2 x v → Rd (w'.setRow b8 #[v']) F2 x v := fun x v h => tu1.relT (x := .pv x) (g := g) (tg.relT (x := .pv x) (g := g) (ta.relT (x := .pv x) (g := g) h))
  have hb5 : g5.bx 8 = some b8 := by
   obtain ⟨u, k1, bb, k2, rfl⟩ := hr6.ts 3 _ rfl
   rw [put_ne (by decide), put_ne (by decide), put_ne (by decide), put_ne (by decide), t3] at k1
   cases k1
   exact k2
  refine wpIn_ret ?_
  refine ⟨hr6.dfr, .tuple #[], by simp [results, Tryz.results125], ⟨_, rfl⟩, F2, ⟨⟨g5, _, hr6.slots hr6.dfr hr6.sz (slots_ok (by intro q hq; cases hq)), hb5⟩, up3 _ _ q7, up3 _ _ q1, up3 _ _ q9⟩, fun x v h => up3 _ _ (up2 _ _ h)⟩
 | false =>
 rw [hc] at x18
 have h := bif_f h hc
 refine wpIn_cond_false (by simp [Act.eval, Array.getD_eq_getD_getElem?, x18]) ?_
 refine wpIn_skip ?_
 obtain ⟨r, er, h⟩ := bind_some h
 show Code.wpIn Fence.wide 0 Tryz.prog (.seq _ _) _ _ _
 refine wpIn_seq ?_
 refine wide_reg (X := ⟨Tryz.prog, w2, F2, 42⟩) (E := ⟨[(0, .pv (.sl (now.map eI)))], [], []⟩) (K := fun E' => E'.has (⟨[(6, .pv (.sl (r.1.map eI)))], [], []⟩ : Env)) [0, 4] rfl (Rel.start hKb.ok hd2 hs2 (slots_ok ?_)) ?_ ?_
 ·intro q hq
  rcases List.mem_singleton.1 hq with rfl
  exact ⟨_, t0, hv2⟩
 ·refine Ops.v (g_move rfl rfl rfl rfl) rfl ?_
  refine Ops.v (g_call rfl rfl rfl ca_126 rfl (c_126 _ _ er)) rfl ?_
  refine Ops.v (g_move rfl rfl rfl rfl) rfl ?_
  refine Ops.v (g_extract rfl rfl rfl rfl rfl) rfl ?_
  refine Ops.v (g_extract rfl rfl rfl rfl rfl) rfl ?_
  refine Ops.v (g_assign rfl rfl rfl rfl) rfl ?_
  refine Ops.v (g_assign rfl rfl rfl rfl) rfl ?_
  refine Ops.nil ?_
  exact has_mk ⟨rfl, trivial⟩ trivial trivial rfl
 rintro a3 w3 g3 F3 E3 hr3 hK3 hkeep3
 obtain ⟨g3', hr3'⟩ := hr3.weaken hK3
 refine wpIn_seq ?_
 refine wide_reg (X := ⟨Tryz.prog, w2, F2, 42⟩) (K := fun E' => E'.has (⟨[(30, .pv (.i (wr (((r.1.length : Nat) : Int) + 1)))), (31, .pv (.i 0))], [], []⟩ : Env)) [0, 4] rfl hr3' ?_ ?_
 ·refine Ops.v (g_move rfl rfl rfl rfl) rfl ?_
  refine Ops.v (g_lenM (l := r.1) (enc := eI) rfl ul_23 rfl rfl rfl) rfl ?_
  refine Ops.v (g_add rfl rfl rfl rfl rfl) rfl ?_
  refine Ops.v (g_move rfl rfl rfl rfl) rfl ?_
  refine Ops.nil ?_
  exact has_mk ⟨rfl, rfl, trivial⟩ trivial trivial rfl
 rintro a4 w4 g4 F4 E4 hr4 hK4 hkeep4
 obtain ⟨g4', hr4'⟩ := hr4.weaken hK4
 have up4 : ∀ x v, Rd W F x v → Rd w4 F4 x v := fun x v h => (up2 _ _ h).ext hr4.ext hKb.ok hr4.le
 have hKc : K125 wn d w0 F0 b8 p7 p1 p9 all w4 F4 := hKb.ext hr4.ext hr4.le hr4.ok
 have z0 := (hkeep4 0 (by simp)).trans ((hkeep3 0 (by simp)).trans t0)
 have z4 := (hkeep4 4 (by simp)).trans ((hkeep3 4 (by simp)).trans t4)
 have hv4 : Rd w4 F4 (.sl (now.map eI)) v := hv2.ext hr4.ext hKb.ok hr4.le
 refine wpIn_block ?_
 refine wpIn_ghost (fun j a w => ∃ (i : Int) (al : List (List Int)) (F' : Foot), a.tmps.size = 42 ∧ a.defers = [] ∧ (∃ u, a.tmps[0]? = some u ∧ Rd w F' (.sl (now.map eI)) u) ∧ (∃ u, a.tmps[4]? = some u ∧ Rd w F' (.ref [.pin (fv125 b8 p7 p1 p9) .junk]) u) ∧ a.tmps[30]? = some (.int .i64 (wr (((r.1.length : Nat) : Int) + 1))) ∧ a.tmps[31]? = some (.int .i64 i) ∧
   K125 wn d w0 F0 b8 p7 p1 p9 al w F' ∧ (∀ x v, Rd W F x v → Rd w F' x v) ∧ s_125l n now (s_125 n wn d k) (wr (((r.1.length : Nat) : Int) + 1)) j i al = some all') n ⟨0, all, F4, hr4.sz, hr4.dfr, ⟨_, z0, hv4⟩, ⟨_, z4, hKc.r9⟩, rel_val hr4' (t := 30) rfl, rel_val hr4' (t := 31) rfl, hKc, up4, h⟩ ?_
 generalize wr (((r.1.length : Nat) : Int) + 1) = mm
 clear h hKc up4 z0 z4 hv4 hr4 hr4' hr3 hr3' hK3 hK4 hkeep3 hkeep4 hKb up2 t0 t3 t4 hs2 hd2 hv2 x18
 rintro j a w ⟨i, al, F', hs, hd, ⟨u0, s0, hu0⟩, ⟨u4, s4, hu4⟩, s30, s31, hK, up, h⟩
 rcases j with _ | j
 ·cases h
 rw [s_125l] at h
 refine wpIn_seq ?_
 refine wide_reg (X := ⟨Tryz.prog, w, F', 42⟩) (E := ⟨[(30, .pv (.i mm)), (31, .pv (.i i))], [], []⟩) (K := fun E' => E'.has (⟨[(32, .pv (.b (decide (i < mm))))], [], []⟩ : Env)) [0, 4, 30, 31] rfl (Rel.start hK.ok hd hs (slots_ok ?_)) ?_ ?_
 ·intro q hq
  simp only [List.mem_cons, List.not_mem_nil, or_false] at hq
  rcases hq with rfl | rfl
  ·exact ⟨_, s30, Rd.val _⟩
  ·exact ⟨_, s31, Rd.val _⟩
 ·refine Ops.v (g_lss rfl rfl rfl rfl rfl) rfl ?_
  refine Ops.nil ?_
  exact has_mk ⟨rfl, trivial⟩ trivial trivial rfl
 rintro a5 w5 g5 F5 E5 hr5 hK5 hkeep5
 obtain ⟨g5', hr5'⟩ := hr5.weaken hK5
 have t0 := (hkeep5 0 (by simp)).trans s0
 have t4 := (hkeep5 4 (by simp)).trans s4
 have t30 := (hkeep5 30 (by simp)).trans s30
 have t31 := (hkeep5 31 (by simp)).trans s31
 have x32 := rel_val hr5' (t := 32) rfl
 have ev32 : a5.eval (.tmp 32) = .bool (decide (i < mm)) := by simp [Act.eval, Array.getD_eq_getD_getElem?, x32]
 have hKd : K125 wn d w0 F0 b8 p7 p1 p9 al w5 F5 := hK.ext hr5.ext hr5.le hr5.ok
 have up5 : ∀ x v, Rd W F x v → Rd w5 F5 x v := fun x v h => (up _ _ h).ext hr5.ext hK.ok hr5.le
 have hv5 := hu0.ext hr5.ext hK.ok hr5.le
 have hw5 := hu4.ext hr5.ext hK.ok hr5.le
 have hs5 := hr5.sz
 have hd5 := hr5.dfr
 clear hr5 hr5' hK5 hkeep5 s0 s4 s30 s31 x32 hK up hu0 hu4 hs hd g5 g5' E5
 generalize hbb : decide (i < mm) = b at ev32 h
 refine wpIn_seq ?_
 cases b with
 | false =>
  refine wpIn_cond_false ev32 ?_
  refine wpIn_exit ?_
  have h := bif_f h rfl
  cases h
  simp only [Exit.then, Exit.inBlock, if_true]
  exact ⟨hd5, .tuple #[], by simp [results, Tryz.results125], ⟨_, rfl⟩, F5, hKd, up5⟩
 | true =>
  refine wpIn_cond_true ev32 ?_
  refine wpIn_skip ?_
  have h := bif_t h rfl
  obtain ⟨c, e97, h⟩ := bind_some h
  obtain ⟨nx, eap, h⟩ := bind_some h
  obtain ⟨al', e125, h⟩ := bind_some h
  refine wpIn_seq ?_
  refine wpIn_mono (Q := fun e a2 w2 => e = .normal ∧ ∃ F2, a2.tmps.size = 42 ∧ a2.defers = [] ∧ (∃ u, a2.tmps[0]? = some u ∧ Rd w2 F2 (.sl (now.map eI)) u) ∧ (∃ u, a2.tmps[4]? = some u ∧ Rd w2 F2 (.ref [.pin (fv125 b8 p7 p1 p9) .junk]) u) ∧ a2.tmps[30]? = some (.int .i64 mm) ∧ a2.tmps[31]? = some (.int .i64 i) ∧
   K125 wn d w0 F0 b8 p7 p1 p9 al' w2 F2 ∧ (∀ x v, Rd W F x v → Rd w2 F2 x v)) ?_ ?_
  ·clear ev32 hbb
   refine wpIn_block ?_
   refine wpIn_seq ?_
   refine wide_reg (X := ⟨Tryz.prog, w5, F5, 42⟩) (E := ⟨[(0, .pv (.sl (now.map eI))), (4, .pv (.ref [.pin (fv125 b8 p7 p1 p9) .junk])), (30, .pv (.i mm)), (31, .pv (.i i))], [], []⟩) (K := fun E' => E'.has (⟨[(0, .pv (.sl (now.map eI))), (4, .pv (.ref [.pin (fv125 b8 p7 p1 p9) .junk])), (30, .pv (.i mm)), (31, .pv (.i i)), (8, .pv (.i i))], [], []⟩ : Env)) [] rfl (Rel.start hKd.ok hd5 hs5 (slots_ok ?_)) ?_ ?_
   ·intro q hq
    simp only [List.mem_cons, List.not_mem_nil, or_false] at hq
    rcases hq with rfl | rfl | rfl | rfl
    ·exact ⟨_, t0, hv5⟩
    ·exact ⟨_, t4, hw5⟩
    ·exact ⟨_, t30, Rd.val _⟩
    ·exact ⟨_, t31, Rd.val _⟩
   ·refine Ops.v (g_move rfl rfl rfl rfl) rfl ?_
    refine Ops.v (g_assign rfl rfl rfl rfl) rfl ?_
    refine Ops.nil ?_
    exact has_mk ⟨rfl, rfl, rfl, rfl, rfl, trivial⟩ trivial trivial rfl
   rintro a6 w6 g6 F6 E6 hr6 hK6 _
   obtain ⟨g6', hr6'⟩ := hr6.weaken hK6
   refine wpIn_wide.2 (draw_raw (X := ⟨Tryz.prog, w5, F5, 42⟩) (m := 6) Checked.mixed
    (PreR.v (GSQ.of (GSG.of rfl (g_loadR1 rfl rfl rfl rfl rfl ag152))) (PreR.v (GSQ.of (GSG.of rfl (g_move rfl rfl rfl rfl))) (PreR.r (GSQ.of (GSG.of rfl (g_callRow2 rfl rfl rfl ca_97 rfl (c_97 _ _ e97)))) rfl
     (PreR.v (GSQ.of (GSG.of rfl (g_move rfl rfl rfl rfl))) (PreR.r (GSQ.of (GSG.of rfl (g_buildSlice (cs := [.val (.int .i64 i)]) (es := List.map eI [i]) rfl rfl rfl el_23 ⟨_, zr_3⟩ rfl rfl rfl rfl rfl rfl))) rfl
      (PreR.aR (enc := eI) [36] eap rfl rfl rfl rfl rfl rfl rfl rfl rfl ex_23 (fun _ => rfl) rfl rfl (PreR.nil _))))))) (by kernel_rfl) hr6' ?_)
   intro g7 F7 a7 w7 hr7
   obtain ⟨g8, F8, hsh⟩ := hr7.share (k := 36) rfl
   obtain ⟨g9, hr9⟩ := hsh.weaken (E' := ⟨[(0, .pv (.sl (now.map eI))), (4, .pv (.ref [.pin (fv125 b8 p7 p1 p9) .junk])), (30, .pv (.i mm)), (31, .pv (.i i)), (34, .pv (.pin (fv125 b8 p7 p1 p9) .junk)), (39, .pv (.sl (nx.map eI)))], [], []⟩) (has_mk ⟨rfl, rfl, rfl, rfl, rfl, rfl, trivial⟩ trivial trivial rfl)
   obtain ⟨u34, k1, k2⟩ := hr9.ts 34 _ rfl
   obtain ⟨u39, k3, k4⟩ := hr9.ts 39 _ rfl
   obtain ⟨u0', k5, k6⟩ := hr9.ts 0 _ rfl
   obtain ⟨u4', k7, k8⟩ := hr9.ts 4 _ rfl
   have y30 := rel_val hr9 (t := 30) rfl
   have y31 := rel_val hr9 (t := 31) rfl
   obtain rfl : u34 = fv125 b8 p7 p1 p9 := by cases k2 with | pin _ _ _ => rfl
   have hKe : K125 wn d w0 F0 b8 p7 p1 p9 al w7 F8 := hKd.ext hr9.ext hr9.le hr9.ok
   have hih := ih nx al al' e125 w7 F8 u39 hKe k4
   refine wpList_clo (R := fun e W' => (∃ v, e = .returned v) ∧ ∃ F', K125 wn d w0 F0 b8 p7 p1 p9 al' W' F' ∧ ∀ x v, Rd w7 F8 x v → Rd W' F' x v) (x := .tmp 34) (y := .tmp 39) (v := u39) (f := 125) (fs := #[]) (caps := #[p7, p1, .pointer (some ⟨b8, 0, none⟩), p9]) rfl rfl (by simp [Act.eval, Array.getD_eq_getD_getElem?, k1, fv125]) (by simp [Act.eval, Array.getD_eq_getD_getElem?, k3]) rfl ca_125 (by simpa using hih) (fun e w' h => h.1) ?_
   rintro v' w8 ⟨_, F9, hKf, upf⟩
   refine ⟨rfl, F9, by simp [Act.put, hr9.sz], hr9.dfr, ⟨u0', by rw [put_ne (by decide)]; exact k5, upf _ _ k6⟩, ⟨u4', by rw [put_ne (by decide)]; exact k7, upf _ _ k8⟩, by rw [put_ne (by decide)]; exact y30, by rw [put_ne (by decide)]; exact y31, hKf, fun x v h => upf _ _ ((up5 _ _ h).ext hr9.ext hKd.ok hr9.le)⟩
  ·rintro e a2 w2 ⟨rfl, F2, z1, z2, ⟨u0, z3, z4⟩, ⟨u4, z5, z6⟩, z7, z8, z9, z10⟩
   refine wide_reg (X := ⟨Tryz.prog, w2, F2, 42⟩) (E := ⟨[(0, .pv (.sl (now.map eI))), (4, .pv (.ref [.pin (fv125 b8 p7 p1 p9) .junk])), (30, .pv (.i mm)), (31, .pv (.i i))], [], []⟩) (K := fun E' => E'.has (⟨[(0, .pv (.sl (now.map eI))), (4, .pv (.ref [.pin (fv125 b8 p7 p1 p9) .junk])), (30, .pv (.i mm)), (31, .pv (.i (wr (i + 1))))], [], []⟩ : Env)) [] rfl (Rel.start z9.ok z2 z1 (slots_ok ?_)) ?_ ?_
   ·intro q hq
    simp only [List.mem_cons, List.not_mem_nil, or_false] at hq
    rcases hq with rfl | rfl | rfl | rfl
    ·exact ⟨_, z3, z4⟩
    ·exact ⟨_, z5, z6⟩
    ·exact ⟨_, z7, Rd.val _⟩
    ·exact ⟨_, z8, Rd.val _⟩
   ·refine Ops.v (g_add rfl rfl rfl rfl rfl) rfl ?_
    refine Ops.v (g_move rfl rfl rfl rfl) rfl ?_
    refine Ops.nil ?_
    exact has_mk ⟨rfl, rfl, rfl, rfl, trivial⟩ trivial trivial rfl
   rintro a3 w3 g3 F3 E3 hr3 hK3 _
   obtain ⟨g3', hr3'⟩ := hr3.weaken hK3
   exact ⟨j, Nat.lt_succ_self _, wr (i + 1), al', F3, hr3.sz, hr3.dfr, hr3'.ts 0 _ rfl, hr3'.ts 4 _ rfl, rel_val hr3' (t := 30) rfl, rel_val hr3' (t := 31) rfl, z9.ext hr3.ext hr3.le hr3.ok, fun x v h => (z10 _ _ h).ext hr3.ext z9.ok hr3.le, h⟩
theorem sz152 : SzIs Tryz.prog 152 1 := SzIs.mk (by kernel_rfl)
theorem sz87 : SzIs Tryz.prog 87 1 := SzIs.mk (by kernel_rfl)
theorem zr87 : ZeroIs Tryz.prog 87 [.nilFunc] := ZeroIs.mk (by kernel_rfl)
theorem c_51 (n : Nat) (d : Drum) {r : List Int × Int × Int} (h : s_51 n d = some r) : Fun Tryz.prog 51 [.agg (cDrum d)] (.ret (.tup [.sl (r.1.map eI), .val (.int .i64 r.2.1), .val (.int .i64 r.2.2)])) := by
 unfold s_51 at h
 obtain ⟨q, e84, h⟩ := bind_some h
 refine enterW 40 Tryz.func51 rfl rfl rfl ?_
 intro w0 F0
 change W _ _ (⟨[(0, .pv (.agg (cDrum d)))], [], []⟩ : Env) _
 refine W.seq ?_
 refine W.region ?_
 refine Ops.b (g_box rfl rfl rfl rfl rfl) rfl rfl ?_
 refine Ops.v (g_assign rfl rfl rfl rfl) rfl ?_
 refine Ops.v (g_assign rfl rfl rfl rfl) rfl ?_
 refine Ops.v (g_assign rfl rfl rfl rfl) rfl ?_
 refine Ops.nil ?_
 refine Sq.n ?_
 refine W.seq ?_
 refine W.conv (Conv.freeze (k := 1) (cs := cDrum d) rfl) ?_
 refine W.region ?_
 refine Ops.v (g_loadRA rfl rfl rfl rfl ag_27 sz_27 rfl rfl) rfl ?_
 refine Ops.v (g_call rfl rfl rfl ca_84 rfl (c_84 _ _ _ e84)) rfl ?_
 refine Ops.v (g_move rfl rfl rfl rfl) rfl ?_
 refine Ops.v (g_extract rfl rfl rfl rfl rfl) rfl ?_
 refine Ops.v (g_extract rfl rfl rfl rfl rfl) rfl ?_
 refine Ops.v (g_assign rfl rfl rfl rfl) rfl ?_
 refine Ops.v (g_assign rfl rfl rfl rfl) rfl ?_
 refine Ops.nil ?_
 refine Sq.n ?_
 refine W.seq ?_
 refine W.seq ?_
 refine W.region ?_
 refine Ops.v (g_move rfl rfl rfl rfl) rfl ?_
 refine Ops.v (g_neq rfl rfl rfl rfl rfl) rfl ?_
 refine Ops.nil ?_
 refine Sq.n ?_
 refine W.cond (b := (!decide (q.2 = 0))) rfl (fun hc => ?_) (fun hc => ?_)
 ·have h := bif_t h hc
  refine W.seq ?_
  refine W.region ?_
  refine Ops.v (g_move rfl rfl rfl rfl) rfl ?_
  refine Ops.v (g_assign rfl rfl rfl rfl) rfl ?_
  refine Ops.v (g_assign rfl rfl rfl rfl) rfl ?_
  refine Ops.v (g_assign rfl rfl rfl rfl) rfl ?_
  refine Ops.nil ?_
  refine Sq.n ?_
  refine W.conv (Conv.nilsl 2 rfl) ?_
  refine W.ret ?_
  refine Sq.r ?_
  obtain rfl := Option.some.inj h
  exact Fin.r rfl (.cons (.tmp _ _ rfl) (.cons (.tmp _ _ rfl) (.cons (.tmp _ _ rfl) .nil))) rfl
 have h := bif_f h hc
 obtain ⟨wn, e98, h⟩ := bind_some h
 obtain ⟨b, eb, h⟩ := bind_some h
 refine W.skip ?_
 refine Sq.n ?_
 refine W.seq ?_
 refine W.region ?_
 refine Ops.v (g_loadRA rfl rfl rfl rfl ag_27 sz_27 rfl rfl) rfl ?_
 refine Ops.v (g_move rfl rfl rfl rfl) rfl ?_
 refine Ops.v (g_call rfl rfl rfl ca_98 rfl (c_98 _ _ _ e98)) rfl ?_
 refine Ops.b (g_alloc rfl rfl rfl zr_129) rfl rfl ?_
 refine Ops.step rfl (s_storeB rfl rfl rfl rfl rfl rfl sz_129 rfl rfl) ?_
 refine Ops.nil ?_
 refine Sq.n ?_
 refine W.seq ?_
 refine W.seq ?_
 refine W.region ?_
 refine Ops.v (g_loadA rfl rfl rfl rfl rfl ag_129 sz_129 rfl rfl) rfl ?_
 refine Ops.v (g_call rfl rfl rfl ca_124 rfl (c_124 _ _ eb)) rfl ?_
 refine Ops.v (g_not rfl rfl rfl rfl) rfl ?_
 refine Ops.nil ?_
 refine Sq.n ?_
 refine W.cond (b := (!b)) rfl (fun hc => ?_) (fun hc => ?_)
 ·have h := bif_t h hc
  refine W.seq ?_
  refine W.region ?_
  refine Ops.v (g_assign rfl rfl rfl rfl) rfl ?_
  refine Ops.v (g_assign rfl rfl rfl rfl) rfl ?_
  refine Ops.v (g_assign rfl rfl rfl rfl) rfl ?_
  refine Ops.nil ?_
  refine Sq.n ?_
  refine W.conv (Conv.nilsl 2 rfl) ?_
  refine W.ret ?_
  refine Sq.r ?_
  obtain rfl := Option.some.inj h
  exact Fin.r rfl (.cons (.tmp _ _ rfl) (.cons (.tmp _ _ rfl) (.cons (.tmp _ _ rfl) .nil))) rfl
 have h := bif_f h hc
 obtain ⟨all, e125, h⟩ := bind_some h
 obtain ⟨o, e129, h⟩ := bind_some h
 obtain ⟨mm, e127, h⟩ := bind_some h
 refine W.skip ?_
 refine Sq.n ?_
 refine W.seq ?_
 refine W.conv (Conv.freeze (k := 7) (cs := cWindows wn) rfl) ?_
 refine W.region ?_
 refine Ops.b (g_alloc rfl rfl rfl zr_151) rfl rfl ?_
 refine Ops.nil ?_
 refine Sq.n ?_
 refine W.seq ?_
 refine W.conv (Conv.nilcell 8 0 800 23 1 rfl rfl rfl) ?_
 refine W.region ?_
 refine Ops.b (g_alloc rfl rfl rfl zr_152) rfl rfl ?_
 refine Ops.nil ?_
 refine Sq.n ?_
 refine W.conv (Conv.has (E' := ⟨[(1, .pv (.ref (cDrum d))), (7, .pv (.ref (cWindows wn))), (8, .box 8 0), (9, .box 9 0)], [(8, 151, [.row 800]), (9, 152, [.pv (.val .nilFunc)])], [(800, ⟨23, 1, []⟩)]⟩) (has_mk ⟨rfl, rfl, rfl, rfl, trivial⟩ ⟨rfl, rfl, trivial⟩ ⟨rfl, trivial⟩ rfl)) ?_
 refine W.raw ?_
 intro g F a w hr
 obtain ⟨p1, s1, h1⟩ := hr.ts 1 _ rfl
 obtain ⟨p7, s7, h7⟩ := hr.ts 7 _ rfl
 obtain ⟨p8, s8, b8, hb8, rfl⟩ := hr.ts 8 _ rfl
 obtain ⟨p9, s9, b9, hb9, rfl⟩ := hr.ts 9 _ rfl
 obtain ⟨bb, us, x1, x2, x3, x4, x5, x6⟩ := hr.bs 9 _ _ rfl
 have hs : a.tmps.size = 40 := hr.sz
 rw [hb9] at x1
 cases x1
 obtain ⟨u0, rfl⟩ : ∃ u0, us = #[u0] := by
  have h1 : us.size = 1 := x3
  exact ⟨us[0], by apply Array.ext (by simp [h1]); intro i h1 h2; simp at h2; subst h2; rfl⟩
 have e1 : a.eval (.tmp 1) = p1 := by simp [Act.eval, Array.getD_eq_getD_getElem?, s1]
 have e7 : a.eval (.tmp 7) = p7 := by simp [Act.eval, Array.getD_eq_getD_getElem?, s7]
 have e8 : a.eval (.tmp 8) = .pointer (some ⟨b8, 0, none⟩) := by simp [Act.eval, Array.getD_eq_getD_getElem?, s8]
 have e9 : a.eval (.tmp 9) = .pointer (some ⟨b9, 0, none⟩) := by simp [Act.eval, Array.getD_eq_getD_getElem?, s9]
 refine wp_seq ?_
 refine wp_region_lit ?_
 refine wpList_val (v := fv125 b8 p7 p1 (.pointer (some ⟨b9, 0, none⟩))) (w' := w) rfl rfl (by simp [execOp, Instr.makeFunc, e1, e7, e8, e9, fv125]) ?_
 refine wpList_none (w' := w.setRow b9 #[fv125 b8 p7 p1 (.pointer (some ⟨b9, 0, none⟩))]) rfl rfl (run_store1 (x := .tmp 9) (y := .tmp 27) sz152 w b9 u0 152 x2 (by rw [ev_ne (by decide)]; exact e9) (ev_same (by omega)) rfl rfl rfl) ?_
 obtain ⟨tu1, tu2⟩ := setRow_turns (w0 := w0) (F := F) (cs := #[fv125 b8 p7 p1 (.pointer (some ⟨b9, 0, none⟩))]) x2 (hr.bx_lt hb9).2.1 (hr.bx_lt hb9).2.2 (hr.bx_m hb9)
 have hr1 := (hr.put (d := 27) (v := .pv .junk) (u := fv125 b8 p7 p1 (.pointer (some ⟨b9, 0, none⟩))) (show 27 < 40 by decide) (Rd.junk _)).setbox (k := 9) (b := b9) (cs' := [.pv (.pin (fv125 b8 p7 p1 (.pointer (some ⟨b9, 0, none⟩))) .junk)]) (us' := #[fv125 b8 p7 p1 (.pointer (some ⟨b9, 0, none⟩))]) rfl hb9 tu1 tu2 rfl (fun j c u hc hu => by
   match j with
   | 0 => cases hc; cases hu; exact Rd.pin _ _ (Rd.junk _)
   | j + 1 => cases hc)
 obtain ⟨g2, F2, hr2⟩ := Conv.freeze (k := 9) (cs := [.pin (fv125 b8 p7 p1 (.pointer (some ⟨b9, 0, none⟩))) .junk]) rfl _ _ _ _ _ _ _ hr1
 obtain ⟨g3, hr3⟩ := hr2.weaken (E' := ⟨[(1, .pv (.ref (cDrum d))), (7, .pv (.ref (cWindows wn))), (8, .box 8 0), (9, .pv (.ref [.pin (fv125 b8 p7 p1 (.pointer (some ⟨b9, 0, none⟩))) .junk]))], [(8, 151, [.row 800])], [(800, ⟨23, 1, []⟩)]⟩) (has_mk ⟨rfl, rfl, rfl, rfl, trivial⟩ ⟨rfl, trivial⟩ ⟨rfl, trivial⟩ rfl)
 clear hr2 hr1
 obtain ⟨q1, k1, k2⟩ := hr3.ts 1 _ rfl
 obtain ⟨q7, k3, k4⟩ := hr3.ts 7 _ rfl
 obtain ⟨q8, k5, b8', k6, rfl⟩ := hr3.ts 8 _ rfl
 obtain ⟨q9, k7, k8⟩ := hr3.ts 9 _ rfl
 rw [put_ne (by decide), s1] at k1
 rw [put_ne (by decide), s7] at k3
 rw [put_ne (by decide), s8] at k5
 rw [put_ne (by decide), s9] at k7
 cases k1; cases k3; cases k5; cases k7
 refine wp_seq ?_
 refine wp_region_lit ?_
 obtain ⟨ui, l1, l2⟩ := rd_load1 (P := Tryz.prog) (T := 152) (o := { (default : Oper) with op := .load 152 (.tmp 9) }) (a := a.put (some 27) (fv125 b8 p7 p1 (.pointer (some ⟨b9, 0, none⟩)))) (x := .tmp 9) ag152 k8 (by rw [ev_ne (by decide)]; exact e9)
 obtain rfl : ui = fv125 b8 p7 p1 (.pointer (some ⟨b9, 0, none⟩)) := by cases l2 with | pin _ _ _ => rfl
 refine wpList_val rfl rfl l1 ?_
 have hK : K125 wn d w0 F0 b8 p7 p1 (.pointer (some ⟨b9, 0, none⟩)) [] (w.setRow b9 #[fv125 b8 p7 p1 (.pointer (some ⟨b9, 0, none⟩))]) F2 :=
  ⟨⟨g3, { tmps := Array.replicate 42 undef, defers := [] }, hr3.slots rfl (by simp) (slots_ok (by intro q hq; cases hq)), k6⟩, k4, k2, k8⟩
 have hcall := c_125 n wn d n [] [] all e125 _ F2 (.slice none 0 0) hK (.sl [] none 0 0 0 ⟨0, 0, none⟩ (fun _ _ => default) rfl (Nat.le_refl _) (fun h => absurd h (by decide)) (fun i e h => by cases h) (fun i e j c h => by cases h) (fun i e j c h => by cases h) (fun i e j c h => by cases h))
 refine wpList_clo (R := fun e W' => (∃ v, e = .returned v) ∧ ∃ F', K125 wn d w0 F0 b8 p7 p1 (.pointer (some ⟨b9, 0, none⟩)) all W' F' ∧ ∀ x v, Rd (w.setRow b9 #[fv125 b8 p7 p1 (.pointer (some ⟨b9, 0, none⟩))]) F2 x v → Rd W' F' x v) (x := .tmp 28) (y := .const (.slice none 0 0)) (v := .slice none 0 0) (f := 125) (fs := #[]) (caps := #[p7, p1, .pointer (some ⟨b8, 0, none⟩), .pointer (some ⟨b9, 0, none⟩)]) rfl rfl (by rw [ev_same (by simp [Act.put]; omega)]; rfl) rfl rfl ca_125 (by simpa using hcall) (fun e w' h => h.1) ?_
 rintro v' w4 ⟨_, F4, hK4, _⟩
 obtain ⟨⟨g4, ax, hr4, hb4⟩, _, _, _⟩ := hK4
 have hr5 : Rel w0 F0 40 g4 F4 ⟨[(8, .box 8 0)], [(8, 151, [.row 800])], [(800, ⟨23, 1, all.map (eL eI)⟩)]⟩ (((a.put (some 27) (fv125 b8 p7 p1 (.pointer (some ⟨b9, 0, none⟩)))).put (some 28) (fv125 b8 p7 p1 (.pointer (some ⟨b9, 0, none⟩)))).put (some 29) v') w4 := hr4.slots hr3.dfr (by simp [Act.put, hs]) (slots_ok (fun q hq => by
  rcases List.mem_singleton.1 hq with rfl
  exact ⟨_, by rw [put_ne (by decide), put_ne (by decide), put_ne (by decide)]; exact s8, b8, hb4, rfl⟩))
 refine W.go (X := ⟨Tryz.prog, w0, F0, 40⟩) ?_ _ _ _ _ hr5
 refine W.seq ?_
 refine W.region ?_
 refine Ops.b (g_alloc rfl rfl rfl zr87) rfl rfl ?_
 refine Ops.step rfl (s_storeB rfl rfl rfl rfl rfl rfl sz87 rfl rfl) ?_
 refine Ops.nil ?_
 refine Sq.n ?_
 refine W.seq ?_
 refine W.conv (Conv.freeze (k := 10) (cs := [.fn 127 [] []]) rfl) ?_
 refine W.region ?_
 refine Ops.v (g_load1 rfl rfl rfl rfl rfl rfl ag_151) rfl ?_
 refine Ops.v (g_makeFunc (first := []) (caps := [.tmp 10]) rfl rfl rfl rfl rfl) rfl ?_
 refine Ops.share (k := 800) rfl ?_
 refine Ops.v (g_call rfl rfl rfl ca_129 rfl (c_129 n all (fun x y => s_130 n x y (fun z => s_127 n z)) ca_130 (fun x0 x1 y e => c_130 n x0 x1 (fun z => s_127 n z) (fidf2 := 127) (firstf2 := []) (capsf2 := []) ca_127 (fun x0 y e => c_127 _ _ e) e) e129)) rfl ?_
 refine Ops.v (g_move rfl rfl rfl rfl) rfl ?_
 refine Ops.v (g_extract rfl rfl rfl rfl rfl) rfl ?_
 refine Ops.v (g_extract rfl rfl rfl rfl rfl) rfl ?_
 refine Ops.v (g_assign rfl rfl rfl rfl) rfl ?_
 refine Ops.v (g_assign rfl rfl rfl rfl) rfl ?_
 refine Ops.nil ?_
 refine Sq.n ?_
 refine W.seq ?_
 refine W.region ?_
 refine Ops.v (g_move rfl rfl rfl rfl) rfl ?_
 refine Ops.v (g_loadR1 rfl rfl rfl rfl rfl ag_87) rfl ?_
 refine Ops.v (g_move rfl rfl rfl rfl) rfl ?_
 refine Ops.v (g_callv rfl rfl rfl rfl ca_127 rfl (c_127 _ _ e127)) rfl ?_
 refine Ops.v (g_assign rfl rfl rfl rfl) rfl ?_
 refine Ops.v (g_assign rfl rfl rfl rfl) rfl ?_
 refine Ops.v (g_assign rfl rfl rfl rfl) rfl ?_
 refine Ops.nil ?_
 refine Sq.n ?_
 refine W.ret ?_
 cases h
 exact Fin.r rfl (.cons (.tmp _ _ rfl) (.cons (.tmp _ _ rfl) (.cons (.tmp _ _ rfl) .nil))) rfl
end Go.Proofs.YtohmhlkdgfcaeaaGreatDoor
namespace Go.Proofs.YtohmhlkdgfcaeaaGreatDoor
open Go Go.RowKit
set_option maxRecDepth 4000
attribute [local irreducible] W Ops GS GSG
def s_24_j6 (n : Nat) (v114 : ((List Int) × Int)) (v116 : ((List Int) × Int × Int)) (v118 : ((List Int) × Int)) (v120 : (Int × Int)) (v121 : (Drum × Int)) (v137 : Bool) : Option (Bool) := bif v137 then ( some (false) ) else ( (s_58 n v114.1 ([2])).bind fun v138 => bif v138 then ( (s_58 n v116.1 ([0, 0, 1])).bind fun v139 => bif v139 then ( bif (decide (v116.2.1 = 2)) then (
 (s_58 n v118.1 ([0, 2])).bind fun v140 => bif v140 then ( bif (decide (v120.1 = 10)) then ( (s_41 n v121.1).bind fun v141 =>
 some ((decide (v141 = (ByteArray.mk #[100, 114, 117, 109, 32, 49, 32, 107, 110, 111, 119, 110, 32, 49, 10, 97, 99, 105, 100, 32, 53, 32, 53, 32, 102, 97, 108, 108, 32, 48, 32, 48, 10, 97, 100, 100, 32, 48, 10, 98, 97, 116, 99, 104, 32, 48, 32, 48, 32, 48, 32, 48, 32, 48, 32, 48, 10, 101, 110, 100, 32, 48, 49, 49, 10])))) ) else ( some (false) ) ) else ( some (false) ) ) else ( some (false) )
 ) else ( some (false) ) ) else ( some (false) ) )
def s_24_j1 (n : Nat) (v102 : ((List Int) × Int)) (v104 : ((List Span) × Int)) (v106 : (Int × Int)) (v108 : ((List Bounds) × Int)) (v110 : (Int × Int)) (v112 : (Int × Int)) (v114 : ((List Int) × Int)) (v116 : ((List Int) × Int × Int)) (v118 : ((List Int) × Int)) (v120 : (Int × Int)) (v121 : (Drum × Int)) (v122 : Bool) : Option (Bool) := bif v122 then ( some (false) ) else (
 (s_58 n v102.1 ([0, 1])).bind fun v128 => bif (!v128) then ( s_24_j6 n v114 v116 v118 v120 v121 true ) else ( (s_83 n 40 65).bind fun v129 => (s_83 n 35 45).bind fun v130 => (s_83 n 20 40).bind fun v131 => (s_83 n 0 35).bind fun v132 => (s_28 n v104.1 ([v129, v130, v131, v132])).bind fun v133 => bif (!v133) then ( s_24_j6 n v114 v116 v118 v120 v121 true ) else ( bif (!decide (v106.1 = 0)) then (
 s_24_j6 n v114 v116 v118 v120 v121 true ) else ( (ix v108.1 0).bind fun v134 => (s_83 n 0 25).bind fun v135 => (s_83 n 156 170).bind fun v136 => bif (!decide (v134 = (Bounds.mk v135 v136))) then ( s_24_j6 n v114 v116 v118 v120 v121 true ) else ( bif (!decide (v110.1 = 2)) then ( s_24_j6 n v114 v116 v118 v120 v121 true ) else ( s_24_j6 n v114 v116 v118 v120 v121 (!decide (v112.1 = 3)) ) ) ) ) ) )
def s_24 (n : Nat) : Option (Bool) := (s_81 n ).bind fun v101 => (s_69 n v101).bind fun v102 => (s_81 n ).bind fun v103 => (s_25 n v103).bind fun v104 => (s_81 n ).bind fun v105 => (s_26 n v105 4).bind fun v106 => (s_81 n ).bind fun v107 => (s_48 n v107 2).bind fun v108 => (s_81 n ).bind fun v109 => (s_31 n v109 1).bind fun v110 => (s_81 n ).bind fun v111 => (s_32 n v111 1).bind fun v112 =>
 (s_81 n ).bind fun v113 => (s_61 n v113).bind fun v114 => (s_81 n ).bind fun v115 => (s_51 n v115).bind fun v116 => (s_81 n ).bind fun v117 => (s_52 n v117).bind fun v118 => (s_82 n ).bind fun v119 => (s_35 n v119 2 4).bind fun v120 =>
 (s_40 n (ByteArray.mk #[100, 114, 117, 109, 32, 49, 32, 107, 110, 111, 119, 110, 32, 49, 10, 97, 99, 105, 100, 32, 53, 32, 53, 32, 102, 97, 108, 108, 32, 48, 32, 48, 10, 97, 100, 100, 32, 48, 10, 98, 97, 116, 99, 104, 32, 48, 32, 48, 32, 48, 32, 48, 32, 48, 32, 48, 10, 101, 110, 100, 32, 48, 49, 49, 10])).bind fun v121 => bif (!decide (v102.2 = 0)) then (
 s_24_j1 n v102 v104 v106 v108 v110 v112 v114 v116 v118 v120 v121 true ) else ( bif (!decide (v104.2 = 0)) then ( s_24_j1 n v102 v104 v106 v108 v110 v112 v114 v116 v118 v120 v121 true ) else ( bif (!decide (v106.2 = 0)) then ( s_24_j1 n v102 v104 v106 v108 v110 v112 v114 v116 v118 v120 v121 true ) else ( bif (!decide (v108.2 = 0)) then (
 s_24_j1 n v102 v104 v106 v108 v110 v112 v114 v116 v118 v120 v121 true ) else ( bif (!decide (v110.2 = 0)) then ( s_24_j1 n v102 v104 v106 v108 v110 v112 v114 v116 v118 v120 v121 true ) else ( bif (!decide (v112.2 = 0)) then ( s_24_j1 n v102 v104 v106 v108 v110 v112 v114 v116 v118 v120 v121 true ) else ( bif (!decide (v114.2 = 0)) then (
 s_24_j1 n v102 v104 v106 v108 v110 v112 v114 v116 v118 v120 v121 true ) else ( bif (!decide (v116.2.2 = 0)) then ( s_24_j1 n v102 v104 v106 v108 v110 v112 v114 v116 v118 v120 v121 true ) else ( bif (!decide (v118.2 = 0)) then ( s_24_j1 n v102 v104 v106 v108 v110 v112 v114 v116 v118 v120 v121 true ) else ( bif (!decide (v120.2 = 0)) then (
 s_24_j1 n v102 v104 v106 v108 v110 v112 v114 v116 v118 v120 v121 true ) else ( bif (!decide (v121.2 = 0)) then ( s_24_j1 n v102 v104 v106 v108 v110 v112 v114 v116 v118 v120 v121 true ) else ( s_24_j1 n v102 v104 v106 v108 v110 v112 v114 v116 v118 v120 v121 (!decide ((v108.1.length : Int) = 3)) ) ) ) ) ) ) ) ) ) ) )
theorem c_24 (n : Nat)  {r : (Bool)} (h : s_24 n  = some r) :
  Fun Tryz.prog 24 [] (.ret (.b r)) := by
 unfold s_24 at h
 refine enterW 187 Tryz.func24 q q q ?_
 intro w0 F0
 change W _ _ (Ev []) _
 refine W.seq<|W.region<|va q q q q q<|on0<|Sq.n<|W.seq<|W.region ?_
 obtain ⟨v101, e101, h⟩ := bind_some h
 refine ov (g_call q q q ca_81 q (c_81 _  e101)) q ?_
 obtain ⟨v102, e102, h⟩ := bind_some h
 refine ov (g_call q q q ca_69 q (c_69 _ _ e102)) q<|vm q q q q q<|ov (g_extract q q q q q) q<|ov (g_extract q q q q q) q<|va q q q q q<|va q q q q q<|on0<|Sq.n<|W.seq<|W.region ?_
 obtain ⟨v103, e103, h⟩ := bind_some h
 refine ov (g_call q q q ca_81 q (c_81 _  e103)) q ?_
 obtain ⟨v104, e104, h⟩ := bind_some h
 refine ov (g_call q q q ca_25 q (c_25 _ _ e104)) q<|vm q q q q q<|ov (g_extract q q q q q) q<|ov (g_extract q q q q q) q<|va q q q q q<|va q q q q q<|on0<|Sq.n<|W.seq<|W.region ?_
 obtain ⟨v105, e105, h⟩ := bind_some h
 refine ov (g_call q q q ca_81 q (c_81 _  e105)) q ?_
 obtain ⟨v106, e106, h⟩ := bind_some h
 refine ov (g_call q q q ca_26 q (c_26 _ _ _ e106)) q<|vm q q q q q<|ov (g_extract q q q q q) q<|ov (g_extract q q q q q) q<|va q q q q q<|va q q q q q<|on0<|Sq.n<|W.seq<|W.region ?_
 obtain ⟨v107, e107, h⟩ := bind_some h
 refine ov (g_call q q q ca_81 q (c_81 _  e107)) q ?_
 obtain ⟨v108, e108, h⟩ := bind_some h
 refine ov (g_call q q q ca_48 q (c_48 _ _ _ e108)) q<|vm q q q q q<|ov (g_extract q q q q q) q<|ov (g_extract q q q q q) q<|va q q q q q<|va q q q q q<|on0<|Sq.n<|W.seq<|W.region ?_
 obtain ⟨v109, e109, h⟩ := bind_some h
 refine ov (g_call q q q ca_81 q (c_81 _  e109)) q ?_
 obtain ⟨v110, e110, h⟩ := bind_some h
 refine ov (g_call q q q ca_31 q (c_31 _ _ _ e110)) q<|vm q q q q q<|ov (g_extract q q q q q) q<|ov (g_extract q q q q q) q<|va q q q q q<|va q q q q q<|on0<|Sq.n<|W.seq<|W.region ?_
 obtain ⟨v111, e111, h⟩ := bind_some h
 refine ov (g_call q q q ca_81 q (c_81 _  e111)) q ?_
 obtain ⟨v112, e112, h⟩ := bind_some h
 refine ov (g_call q q q ca_32 q (c_32 _ _ _ e112)) q<|vm q q q q q<|ov (g_extract q q q q q) q<|ov (g_extract q q q q q) q<|va q q q q q<|va q q q q q<|on0<|Sq.n<|W.seq<|W.region ?_
 obtain ⟨v113, e113, h⟩ := bind_some h
 refine ov (g_call q q q ca_81 q (c_81 _  e113)) q ?_
 obtain ⟨v114, e114, h⟩ := bind_some h
 refine ov (g_call q q q ca_61 q (c_61 _ _ e114)) q<|vm q q q q q<|ov (g_extract q q q q q) q<|ov (g_extract q q q q q) q<|va q q q q q<|va q q q q q<|on0<|Sq.n<|W.seq<|W.region ?_
 obtain ⟨v115, e115, h⟩ := bind_some h
 refine ov (g_call q q q ca_81 q (c_81 _  e115)) q ?_
 obtain ⟨v116, e116, h⟩ := bind_some h
 refine ov (g_call q q q ca_51 q (c_51 _ _ e116)) q<|vm q q q q q<|ov (g_extract q q q q q) q<|ov (g_extract q q q q q) q<|ov (g_extract q q q q q) q<|va q q q q q<|va q q q q q<|va q q q q q<|on0<|Sq.n<|W.seq<|W.region ?_
 obtain ⟨v117, e117, h⟩ := bind_some h
 refine ov (g_call q q q ca_81 q (c_81 _  e117)) q ?_
 obtain ⟨v118, e118, h⟩ := bind_some h
 refine ov (g_call q q q ca_52 q (c_52 _ _ e118)) q<|vm q q q q q<|ov (g_extract q q q q q) q<|ov (g_extract q q q q q) q<|va q q q q q<|va q q q q q<|on0<|Sq.n<|W.seq<|W.region ?_
 obtain ⟨v119, e119, h⟩ := bind_some h
 refine ov (g_call q q q ca_82 q (c_82 _  e119)) q ?_
 obtain ⟨v120, e120, h⟩ := bind_some h
 refine ov (g_call q q q ca_35 q (c_35 _ _ _ _ e120)) q<|vm q q q q q<|ov (g_extract q q q q q) q<|ov (g_extract q q q q q) q<|va q q q q q<|va q q q q q<|on0<|Sq.n<|W.seq<|W.region ?_
 obtain ⟨v121, e121, h⟩ := bind_some h
 refine ov (g_call q q q ca_40 q (c_40 _ _ e121)) q<|vm q q q q q<|ov (g_extract q q q q q) q<|ov (g_extract q q q q q) q<|ob (g_alloc q q q zr_27) q q<|Ops.step q (s_storeB q q q q q q sz_27 q q)<|va q q q q q<|on0<|Sq.n<|W.seq<|W.seqJ (σ := Bool) (fun s => (⟨[(1, .pv (.sl (List.map eI v102.1))), (3, .pv (.sl (List.map cSpan v104.1))), (5, .pv (.i v106.1)), (7, .pv (.sl (List.map cBounds v108.1))), (9, .pv (.i v110.1)), (11, .pv (.i v112.1)), (13, .pv (.sl (List.map eI v114.1))), (15, .pv (.sl (List.map eI v116.1))), (16, .pv (.i v116.2.1)), (18, .pv (.sl (List.map eI v118.1))), (20, .pv (.i v120.1)), (22, .box 22 0), (125, .pv (.b s))], [(22, 27, [.pv (.sl (List.map cAcid v121.1.acids)), .pv (.i v121.1.known), .pv (.i v121.1.hours), .pv (.sl (List.map eI v121.1.adds)), .pv (.sl (List.map cStrip v121.1.strips)), .pv (.sl (List.map cBatch v121.1.batches))])], []⟩ : Env)) (fun s => s_24_j1 n v102 v104 v106 v108 v110 v112 v114 v116 v118 v120 v121 s = some r) ?_ ?_
 ·refine W.region<|vm q q q q q<|ov (g_neq q q q q q) q<|vm q q q q q<|Ops.split 81 q (fun hb => ?_) (fun hb => ?_)
  ·have h := bif_t h hb
   refine o2 q q q q q q<|o2 q q q q q q<|vt q q q q q q<|vm q q q q q<|o2 q q q q q q<|o2 q q q q q q<|vt q q q q q q<|vm q q q q q<|o2 q q q q q q<|o2 q q q q q q<|vt q q q q q q<|vm q q q q q<|o2 q q q q q q<|o2 q q q q q q<|vt q q q q q q<|vm q q q q q<|o2 q q q q q q<|o2 q q q q q q<|vt q q q q q q<|vm q q q q q<|o2 q q q q q q<|o2 q q q q q q<|vt q q q q q q<|vm q q q q q<|o2 q q q q q q<|o2 q q q q q q<|vt q q q q q q<|vm q q q q q<|o2 q q q q q q<|o2 q q q q q q<|vt q q q q q q<|vm q q q q q<|o2 q q q q q q<|o2 q q q q q q<|vt q q q q q q<|vm q q q q q<|o2 q q q q q q<|o2 q q q q q q<|vt q q q q q q<|vm q q q q q<|o2 q q q q q q<|o2 q q q q q q<|o2 q q q q q q<|vt q q q q q q<|on0<|Sq.n<|⟨true, h, has_mk ⟨q, q, q, q, q, q, q, q, q, q, q, q, q, trivial⟩ ⟨q, trivial⟩ trivial q⟩
  ·have h := bif_f h hb
   refine on q q q<|vm q q q q q<|on q q q<|ov (g_neq q q q q q) q<|vf q q q q q q<|vm q q q q q<|Ops.split 85 q (fun hb => ?_) (fun hb => ?_)
   ·have h := bif_t h hb
    refine o2 q q q q q q<|o2 q q q q q q<|vt q q q q q q<|vm q q q q q<|o2 q q q q q q<|o2 q q q q q q<|vt q q q q q q<|vm q q q q q<|o2 q q q q q q<|o2 q q q q q q<|vt q q q q q q<|vm q q q q q<|o2 q q q q q q<|o2 q q q q q q<|vt q q q q q q<|vm q q q q q<|o2 q q q q q q<|o2 q q q q q q<|vt q q q q q q<|vm q q q q q<|o2 q q q q q q<|o2 q q q q q q<|vt q q q q q q<|vm q q q q q<|o2 q q q q q q<|o2 q q q q q q<|vt q q q q q q<|vm q q q q q<|o2 q q q q q q<|o2 q q q q q q<|vt q q q q q q<|vm q q q q q<|o2 q q q q q q<|o2 q q q q q q<|vt q q q q q q<|vm q q q q q<|o2 q q q q q q<|o2 q q q q q q<|o2 q q q q q q<|vt q q q q q q<|on0<|Sq.n<|⟨true, h, has_mk ⟨q, q, q, q, q, q, q, q, q, q, q, q, q, trivial⟩ ⟨q, trivial⟩ trivial q⟩
   ·have h := bif_f h hb
    refine on q q q<|vm q q q q q<|on q q q<|ov (g_neq q q q q q) q<|vf q q q q q q<|vm q q q q q<|Ops.split 89 q (fun hb => ?_) (fun hb => ?_)
    ·have h := bif_t h hb
     refine o2 q q q q q q<|o2 q q q q q q<|vt q q q q q q<|vm q q q q q<|o2 q q q q q q<|o2 q q q q q q<|vt q q q q q q<|vm q q q q q<|o2 q q q q q q<|o2 q q q q q q<|vt q q q q q q<|vm q q q q q<|o2 q q q q q q<|o2 q q q q q q<|vt q q q q q q<|vm q q q q q<|o2 q q q q q q<|o2 q q q q q q<|vt q q q q q q<|vm q q q q q<|o2 q q q q q q<|o2 q q q q q q<|vt q q q q q q<|vm q q q q q<|o2 q q q q q q<|o2 q q q q q q<|vt q q q q q q<|vm q q q q q<|o2 q q q q q q<|o2 q q q q q q<|vt q q q q q q<|vm q q q q q<|o2 q q q q q q<|o2 q q q q q q<|o2 q q q q q q<|vt q q q q q q<|on0<|Sq.n<|⟨true, h, has_mk ⟨q, q, q, q, q, q, q, q, q, q, q, q, q, trivial⟩ ⟨q, trivial⟩ trivial q⟩
    ·have h := bif_f h hb
     refine on q q q<|vm q q q q q<|on q q q<|ov (g_neq q q q q q) q<|vf q q q q q q<|vm q q q q q<|Ops.split 93 q (fun hb => ?_) (fun hb => ?_)
     ·have h := bif_t h hb
      refine o2 q q q q q q<|o2 q q q q q q<|vt q q q q q q<|vm q q q q q<|o2 q q q q q q<|o2 q q q q q q<|vt q q q q q q<|vm q q q q q<|o2 q q q q q q<|o2 q q q q q q<|vt q q q q q q<|vm q q q q q<|o2 q q q q q q<|o2 q q q q q q<|vt q q q q q q<|vm q q q q q<|o2 q q q q q q<|o2 q q q q q q<|vt q q q q q q<|vm q q q q q<|o2 q q q q q q<|o2 q q q q q q<|vt q q q q q q<|vm q q q q q<|o2 q q q q q q<|o2 q q q q q q<|vt q q q q q q<|vm q q q q q<|o2 q q q q q q<|o2 q q q q q q<|o2 q q q q q q<|vt q q q q q q<|on0<|Sq.n<|⟨true, h, has_mk ⟨q, q, q, q, q, q, q, q, q, q, q, q, q, trivial⟩ ⟨q, trivial⟩ trivial q⟩
     ·have h := bif_f h hb
      refine on q q q<|vm q q q q q<|on q q q<|ov (g_neq q q q q q) q<|vf q q q q q q<|vm q q q q q<|Ops.split 97 q (fun hb => ?_) (fun hb => ?_)
      ·have h := bif_t h hb
       refine o2 q q q q q q<|o2 q q q q q q<|vt q q q q q q<|vm q q q q q<|o2 q q q q q q<|o2 q q q q q q<|vt q q q q q q<|vm q q q q q<|o2 q q q q q q<|o2 q q q q q q<|vt q q q q q q<|vm q q q q q<|o2 q q q q q q<|o2 q q q q q q<|vt q q q q q q<|vm q q q q q<|o2 q q q q q q<|o2 q q q q q q<|vt q q q q q q<|vm q q q q q<|o2 q q q q q q<|o2 q q q q q q<|vt q q q q q q<|vm q q q q q<|o2 q q q q q q<|o2 q q q q q q<|o2 q q q q q q<|vt q q q q q q<|on0<|Sq.n<|⟨true, h, has_mk ⟨q, q, q, q, q, q, q, q, q, q, q, q, q, trivial⟩ ⟨q, trivial⟩ trivial q⟩
      ·have h := bif_f h hb
       refine on q q q<|vm q q q q q<|on q q q<|ov (g_neq q q q q q) q<|vf q q q q q q<|vm q q q q q<|Ops.split 101 q (fun hb => ?_) (fun hb => ?_)
       ·have h := bif_t h hb
        refine o2 q q q q q q<|o2 q q q q q q<|vt q q q q q q<|vm q q q q q<|o2 q q q q q q<|o2 q q q q q q<|vt q q q q q q<|vm q q q q q<|o2 q q q q q q<|o2 q q q q q q<|vt q q q q q q<|vm q q q q q<|o2 q q q q q q<|o2 q q q q q q<|vt q q q q q q<|vm q q q q q<|o2 q q q q q q<|o2 q q q q q q<|vt q q q q q q<|vm q q q q q<|o2 q q q q q q<|o2 q q q q q q<|o2 q q q q q q<|vt q q q q q q<|on0<|Sq.n<|⟨true, h, has_mk ⟨q, q, q, q, q, q, q, q, q, q, q, q, q, trivial⟩ ⟨q, trivial⟩ trivial q⟩
       ·have h := bif_f h hb
        refine on q q q<|vm q q q q q<|on q q q<|ov (g_neq q q q q q) q<|vf q q q q q q<|vm q q q q q<|Ops.split 105 q (fun hb => ?_) (fun hb => ?_)
        ·have h := bif_t h hb
         refine o2 q q q q q q<|o2 q q q q q q<|vt q q q q q q<|vm q q q q q<|o2 q q q q q q<|o2 q q q q q q<|vt q q q q q q<|vm q q q q q<|o2 q q q q q q<|o2 q q q q q q<|vt q q q q q q<|vm q q q q q<|o2 q q q q q q<|o2 q q q q q q<|vt q q q q q q<|vm q q q q q<|o2 q q q q q q<|o2 q q q q q q<|o2 q q q q q q<|vt q q q q q q<|on0<|Sq.n<|⟨true, h, has_mk ⟨q, q, q, q, q, q, q, q, q, q, q, q, q, trivial⟩ ⟨q, trivial⟩ trivial q⟩
        ·have h := bif_f h hb
         refine on q q q<|vm q q q q q<|on q q q<|ov (g_neq q q q q q) q<|vf q q q q q q<|vm q q q q q<|Ops.split 109 q (fun hb => ?_) (fun hb => ?_)
         ·have h := bif_t h hb
          refine o2 q q q q q q<|o2 q q q q q q<|vt q q q q q q<|vm q q q q q<|o2 q q q q q q<|o2 q q q q q q<|vt q q q q q q<|vm q q q q q<|o2 q q q q q q<|o2 q q q q q q<|vt q q q q q q<|vm q q q q q<|o2 q q q q q q<|o2 q q q q q q<|o2 q q q q q q<|vt q q q q q q<|on0<|Sq.n<|⟨true, h, has_mk ⟨q, q, q, q, q, q, q, q, q, q, q, q, q, trivial⟩ ⟨q, trivial⟩ trivial q⟩
         ·have h := bif_f h hb
          refine on q q q<|vm q q q q q<|on q q q<|ov (g_neq q q q q q) q<|vf q q q q q q<|vm q q q q q<|Ops.split 113 q (fun hb => ?_) (fun hb => ?_)
          ·have h := bif_t h hb
           refine o2 q q q q q q<|o2 q q q q q q<|vt q q q q q q<|vm q q q q q<|o2 q q q q q q<|o2 q q q q q q<|vt q q q q q q<|vm q q q q q<|o2 q q q q q q<|o2 q q q q q q<|o2 q q q q q q<|vt q q q q q q<|on0<|Sq.n<|⟨true, h, has_mk ⟨q, q, q, q, q, q, q, q, q, q, q, q, q, trivial⟩ ⟨q, trivial⟩ trivial q⟩
          ·have h := bif_f h hb
           refine on q q q<|vm q q q q q<|on q q q<|ov (g_neq q q q q q) q<|vf q q q q q q<|vm q q q q q<|Ops.split 117 q (fun hb => ?_) (fun hb => ?_)
           ·have h := bif_t h hb
            refine o2 q q q q q q<|o2 q q q q q q<|vt q q q q q q<|vm q q q q q<|o2 q q q q q q<|o2 q q q q q q<|o2 q q q q q q<|vt q q q q q q<|on0<|Sq.n<|⟨true, h, has_mk ⟨q, q, q, q, q, q, q, q, q, q, q, q, q, trivial⟩ ⟨q, trivial⟩ trivial q⟩
           ·have h := bif_f h hb
            refine on q q q<|vm q q q q q<|on q q q<|ov (g_neq q q q q q) q<|vf q q q q q q<|vm q q q q q<|Ops.split 121 q (fun hb => ?_) (fun hb => ?_)
            ·have h := bif_t h hb
             refine o2 q q q q q q<|o2 q q q q q q<|o2 q q q q q q<|vt q q q q q q<|on0<|Sq.n<|⟨true, h, has_mk ⟨q, q, q, q, q, q, q, q, q, q, q, q, q, trivial⟩ ⟨q, trivial⟩ trivial q⟩
            ·have h := bif_f h hb
             refine on q q q<|vm q q q q q<|on q q q<|ov (g_lenM (l := v108.1) (enc := cBounds) q ul_63 q q q) q<|on q q q<|ov (g_neq q q q q q) q<|vf q q q q q q<|on0<|Sq.n<|⟨(!decide ((v108.1.length : Int) = 3)), h, has_mk ⟨q, q, q, q, q, q, q, q, q, q, q, q, q, trivial⟩ ⟨q, trivial⟩ trivial q⟩
 ·rintro v122 h
  change s_24_j1 n v102 v104 v106 v108 v110 v112 v114 v116 v118 v120 v121 v122 = some r at h
  unfold s_24_j1 at h
  change W _ _ (⟨[(1, .pv (.sl (List.map eI v102.1))), (3, .pv (.sl (List.map cSpan v104.1))), (5, .pv (.i v106.1)), (7, .pv (.sl (List.map cBounds v108.1))), (9, .pv (.i v110.1)), (11, .pv (.i v112.1)), (13, .pv (.sl (List.map eI v114.1))), (15, .pv (.sl (List.map eI v116.1))), (16, .pv (.i v116.2.1)), (18, .pv (.sl (List.map eI v118.1))), (20, .pv (.i v120.1)), (22, .box 22 0), (125, .pv (.b v122))], [(22, 27, [.pv (.sl (List.map cAcid v121.1.acids)), .pv (.i v121.1.known), .pv (.i v121.1.hours), .pv (.sl (List.map eI v121.1.adds)), .pv (.sl (List.map cStrip v121.1.strips)), .pv (.sl (List.map cBatch v121.1.batches))])], []⟩ : Env) _
  refine W.cond (b := v122) q (fun hc => ?_) (fun hc => ?_)
  ·have h := bif_t h hc
   refine W.seq<|W.region<|va q q q q q<|on0<|Sq.n<|W.ret<|Sq.r ?_
   obtain rfl := Option.some.inj h
   exact Fin.r q (.cons (.tmp _ _ q) .nil) q
  ·have h := bif_f h hc
   refine W.skip<|Sq.n<|W.seq<|W.seqJ (σ := Bool) (fun s => (⟨[(13, .pv (.sl (List.map eI v114.1))), (15, .pv (.sl (List.map eI v116.1))), (16, .pv (.i v116.2.1)), (18, .pv (.sl (List.map eI v118.1))), (20, .pv (.i v120.1)), (22, .box 22 0), (160, .pv (.b s))], [(22, 27, [.pv (.sl (List.map cAcid v121.1.acids)), .pv (.i v121.1.known), .pv (.i v121.1.hours), .pv (.sl (List.map eI v121.1.adds)), .pv (.sl (List.map cStrip v121.1.strips)), .pv (.sl (List.map cBatch v121.1.batches))])], []⟩ : Env)) (fun s => s_24_j6 n v114 v116 v118 v120 v121 s = some r) ?_ ?_
   ·obtain ⟨v128, e128, h⟩ := bind_some h
    rcases Bool.eq_false_or_eq_true ((!v128)) with hb3 | hb3
    ·have h := bif_t h hb3
     refine W.draw (m := 25) Checked.mixed (Pre.v (GSG.of q (g_move q q q q)) ((Pre.v (GSG.of q (g_buildSl (cs := [.val (.int .i64 0), .val (.int .i64 1)]) (es := List.map eI [0, 1]) q q q el_23 ⟨_, zr_3⟩ q q q q q q)) ((Pre.v (GSG.of q (g_call q q q ca_58 q (c_58 _ _ _ e128))) ((Pre.v (GSG.of q (g_not q q q q)) ((Pre.v (GSG.as (GSG.of q (g_move q q q q)) (congrArg (fun b => TV.pv (PV.b b)) hb3)) ((Pre.v (GSG.off2 q q q q q q) ((Pre.v (GSG.off2 q q q q q q) ((Pre.v (GSG.off2 q q q q q q) ((Pre.v (GSG.off2 q q q q q q) ((Pre.v (GSG.off2 q q q q q q) ((Pre.v (GSG.off2 q q q q q q) ((Pre.v (GSG.off2 q q q q q q) ((Pre.v (GSG.off2 q q q q q q) ((Pre.v (GSG.of q (g_pickT q q q q q)) ((Pre.v (GSG.of q (g_move q q q q)) ((Pre.v (GSG.off2 q q q q q q) ((Pre.v (GSG.off2 q q q q q q) ((Pre.v (GSG.of q (g_pickT q q q q q)) ((Pre.v (GSG.of q (g_move q q q q)) ((Pre.v (GSG.off2 q q q q q q) ((Pre.v (GSG.off2 q q q q q q) ((Pre.v (GSG.off2 q q q q q q) ((Pre.v (GSG.off2 q q q q q q) ((Pre.v (GSG.off2 q q q q q q) ((Pre.v (GSG.off2 q q q q q q) (Pre.nil _)))))))))))))))))))))))))))))))))))))))))))))))))) (by kernel_rfl)<|o2 q q q q q q<|vt q q q q q q<|vm q q q q q<|o2 q q q q q q<|o2 q q q q q q<|vt q q q q q q<|vm q q q q q<|o2 q q q q q q<|o2 q q q q q q<|vt q q q q q q<|on0<|Sq.n<|⟨true, h, has_mk ⟨q, q, q, q, q, q, q, trivial⟩ ⟨q, trivial⟩ trivial q⟩
    ·have h := bif_f h hb3
     obtain ⟨v129, e129, h⟩ := bind_some h
     obtain ⟨v130, e130, h⟩ := bind_some h
     obtain ⟨v131, e131, h⟩ := bind_some h
     obtain ⟨v132, e132, h⟩ := bind_some h
     obtain ⟨v133, e133, h⟩ := bind_some h
     rcases Bool.eq_false_or_eq_true ((!v133)) with hb4 | hb4
     ·have h := bif_t h hb4
      refine W.draw (m := 25) Checked.mixed (Pre.v (GSG.of q (g_move q q q q)) ((Pre.v (GSG.of q (g_buildSl (cs := [.val (.int .i64 0), .val (.int .i64 1)]) (es := List.map eI [0, 1]) q q q el_23 ⟨_, zr_3⟩ q q q q q q)) ((Pre.v (GSG.of q (g_call q q q ca_58 q (c_58 _ _ _ e128))) ((Pre.v (GSG.of q (g_not q q q q)) ((Pre.v (GSG.as (GSG.of q (g_move q q q q)) (congrArg (fun b => TV.pv (PV.b b)) hb3)) ((Pre.v (GSG.on q q q (g_move q q q q)) ((Pre.v (GSG.on q q q (g_call q q q ca_83 q (c_83 _ _ _ e129))) ((Pre.v (GSG.on q q q (g_call q q q ca_83 q (c_83 _ _ _ e130))) ((Pre.v (GSG.on q q q (g_call q q q ca_83 q (c_83 _ _ _ e131))) ((Pre.v (GSG.on q q q (g_call q q q ca_83 q (c_83 _ _ _ e132))) ((Pre.v (GSG.on q q q (g_buildSl (cs := [.val (.int .i64 v129.low), .val (.int .i64 v129.high), .val (.int .i64 v130.low), .val (.int .i64 v130.high), .val (.int .i64 v131.low), .val (.int .i64 v131.high), .val (.int .i64 v132.low), .val (.int .i64 v132.high)]) (es := List.map cSpan [v129, v130, v131, v132]) q q q el_30 ⟨_, zr_57⟩ q q q q q q)) ((Pre.v (GSG.on q q q (g_call q q q ca_28 q (c_28 _ _ _ e133))) ((Pre.v (GSG.on q q q (g_not q q q q)) ((Pre.v (GSG.of q (g_pickF q q q q q)) ((Pre.v (GSG.as (GSG.of q (g_move q q q q)) (congrArg (fun b => TV.pv (PV.b b)) hb4)) ((Pre.v (GSG.off2 q q q q q q) ((Pre.v (GSG.off2 q q q q q q) ((Pre.v (GSG.of q (g_pickT q q q q q)) ((Pre.v (GSG.of q (g_move q q q q)) ((Pre.v (GSG.off2 q q q q q q) ((Pre.v (GSG.off2 q q q q q q) ((Pre.v (GSG.off2 q q q q q q) ((Pre.v (GSG.off2 q q q q q q) ((Pre.v (GSG.off2 q q q q q q) ((Pre.v (GSG.off2 q q q q q q) (Pre.nil _)))))))))))))))))))))))))))))))))))))))))))))))))) (by kernel_rfl)<|o2 q q q q q q<|vt q q q q q q<|vm q q q q q<|o2 q q q q q q<|o2 q q q q q q<|vt q q q q q q<|vm q q q q q<|o2 q q q q q q<|o2 q q q q q q<|vt q q q q q q<|on0<|Sq.n<|⟨true, h, has_mk ⟨q, q, q, q, q, q, q, trivial⟩ ⟨q, trivial⟩ trivial q⟩
     ·have h := bif_f h hb4
      rcases Bool.eq_false_or_eq_true ((!decide (v106.1 = 0))) with hb5 | hb5
      ·have h := bif_t h hb5
       refine W.draw (m := 25) Checked.mixed (Pre.v (GSG.of q (g_move q q q q)) ((Pre.v (GSG.of q (g_buildSl (cs := [.val (.int .i64 0), .val (.int .i64 1)]) (es := List.map eI [0, 1]) q q q el_23 ⟨_, zr_3⟩ q q q q q q)) ((Pre.v (GSG.of q (g_call q q q ca_58 q (c_58 _ _ _ e128))) ((Pre.v (GSG.of q (g_not q q q q)) ((Pre.v (GSG.as (GSG.of q (g_move q q q q)) (congrArg (fun b => TV.pv (PV.b b)) hb3)) ((Pre.v (GSG.on q q q (g_move q q q q)) ((Pre.v (GSG.on q q q (g_call q q q ca_83 q (c_83 _ _ _ e129))) ((Pre.v (GSG.on q q q (g_call q q q ca_83 q (c_83 _ _ _ e130))) ((Pre.v (GSG.on q q q (g_call q q q ca_83 q (c_83 _ _ _ e131))) ((Pre.v (GSG.on q q q (g_call q q q ca_83 q (c_83 _ _ _ e132))) ((Pre.v (GSG.on q q q (g_buildSl (cs := [.val (.int .i64 v129.low), .val (.int .i64 v129.high), .val (.int .i64 v130.low), .val (.int .i64 v130.high), .val (.int .i64 v131.low), .val (.int .i64 v131.high), .val (.int .i64 v132.low), .val (.int .i64 v132.high)]) (es := List.map cSpan [v129, v130, v131, v132]) q q q el_30 ⟨_, zr_57⟩ q q q q q q)) ((Pre.v (GSG.on q q q (g_call q q q ca_28 q (c_28 _ _ _ e133))) ((Pre.v (GSG.on q q q (g_not q q q q)) ((Pre.v (GSG.of q (g_pickF q q q q q)) ((Pre.v (GSG.as (GSG.of q (g_move q q q q)) (congrArg (fun b => TV.pv (PV.b b)) hb4)) ((Pre.v (GSG.on q q q (g_move q q q q)) ((Pre.v (GSG.on q q q (g_neq q q q q q)) ((Pre.v (GSG.of q (g_pickF q q q q q)) ((Pre.v (GSG.as (GSG.of q (g_move q q q q)) (congrArg (fun b => TV.pv (PV.b b)) hb5)) ((Pre.v (GSG.off2 q q q q q q) ((Pre.v (GSG.off2 q q q q q q) ((Pre.v (GSG.off2 q q q q q q) ((Pre.v (GSG.off2 q q q q q q) ((Pre.v (GSG.off2 q q q q q q) ((Pre.v (GSG.off2 q q q q q q) (Pre.nil _)))))))))))))))))))))))))))))))))))))))))))))))))) (by kernel_rfl)<|o2 q q q q q q<|vt q q q q q q<|vm q q q q q<|o2 q q q q q q<|o2 q q q q q q<|vt q q q q q q<|vm q q q q q<|o2 q q q q q q<|o2 q q q q q q<|vt q q q q q q<|on0<|Sq.n<|⟨true, h, has_mk ⟨q, q, q, q, q, q, q, trivial⟩ ⟨q, trivial⟩ trivial q⟩
      ·have h := bif_f h hb5
       obtain ⟨v134, e134, h⟩ := bind_some h
       obtain ⟨v135, e135, h⟩ := bind_some h
       obtain ⟨v136, e136, h⟩ := bind_some h
       refine W.draw (m := 25) Checked.mixed (Pre.v (GSG.of q (g_move q q q q)) ((Pre.v (GSG.of q (g_buildSl (cs := [.val (.int .i64 0), .val (.int .i64 1)]) (es := List.map eI [0, 1]) q q q el_23 ⟨_, zr_3⟩ q q q q q q)) ((Pre.v (GSG.of q (g_call q q q ca_58 q (c_58 _ _ _ e128))) ((Pre.v (GSG.of q (g_not q q q q)) ((Pre.v (GSG.as (GSG.of q (g_move q q q q)) (congrArg (fun b => TV.pv (PV.b b)) hb3)) ((Pre.v (GSG.on q q q (g_move q q q q)) ((Pre.v (GSG.on q q q (g_call q q q ca_83 q (c_83 _ _ _ e129))) ((Pre.v (GSG.on q q q (g_call q q q ca_83 q (c_83 _ _ _ e130))) ((Pre.v (GSG.on q q q (g_call q q q ca_83 q (c_83 _ _ _ e131))) ((Pre.v (GSG.on q q q (g_call q q q ca_83 q (c_83 _ _ _ e132))) ((Pre.v (GSG.on q q q (g_buildSl (cs := [.val (.int .i64 v129.low), .val (.int .i64 v129.high), .val (.int .i64 v130.low), .val (.int .i64 v130.high), .val (.int .i64 v131.low), .val (.int .i64 v131.high), .val (.int .i64 v132.low), .val (.int .i64 v132.high)]) (es := List.map cSpan [v129, v130, v131, v132]) q q q el_30 ⟨_, zr_57⟩ q q q q q q)) ((Pre.v (GSG.on q q q (g_call q q q ca_28 q (c_28 _ _ _ e133))) ((Pre.v (GSG.on q q q (g_not q q q q)) ((Pre.v (GSG.of q (g_pickF q q q q q)) ((Pre.v (GSG.as (GSG.of q (g_move q q q q)) (congrArg (fun b => TV.pv (PV.b b)) hb4)) ((Pre.v (GSG.on q q q (g_move q q q q)) ((Pre.v (GSG.on q q q (g_neq q q q q q)) ((Pre.v (GSG.of q (g_pickF q q q q q)) ((Pre.v (GSG.as (GSG.of q (g_move q q q q)) (congrArg (fun b => TV.pv (PV.b b)) hb5)) ((Pre.v (GSG.on q q q (g_move q q q q)) ((Pre.v (GSG.on q q q (g_idxI (l := v108.1) (enc := cBounds) e134 q q q q q el_63 q)) ((Pre.v (GSG.on q q q (g_loadRA q q q q ag_71 sz_71 q q)) ((Pre.v (GSG.on q q q (g_call q q q ca_83 q (c_83 _ _ _ e135))) ((Pre.v (GSG.on q q q (g_call q q q ca_83 q (c_83 _ _ _ e136))) ((Pre.v (GSG.on q q q (g_build (cs := (cBounds (Bounds.mk v135 v136))) q q q zr_71 st_71 q q)) (Pre.nil _)))))))))))))))))))))))))))))))))))))))))))))))))) (by kernel_rfl)<|on q q q<|ov (g_neq_71 (a := v134) (b := (Bounds.mk v135 v136)) q q q q q) q<|vf q q q q q q<|vm q q q q q<|Ops.split 153 q (fun hb => ?_) (fun hb => ?_)
       ·have h := bif_t h hb
        refine o2 q q q q q q<|o2 q q q q q q<|vt q q q q q q<|vm q q q q q<|o2 q q q q q q<|o2 q q q q q q<|vt q q q q q q<|on0<|Sq.n<|⟨true, h, has_mk ⟨q, q, q, q, q, q, q, trivial⟩ ⟨q, trivial⟩ trivial q⟩
       ·have h := bif_f h hb
        refine on q q q<|vm q q q q q<|on q q q<|ov (g_neq q q q q q) q<|vf q q q q q q<|vm q q q q q<|Ops.split 157 q (fun hb => ?_) (fun hb => ?_)
        ·have h := bif_t h hb
         refine o2 q q q q q q<|o2 q q q q q q<|vt q q q q q q<|on0<|Sq.n<|⟨true, h, has_mk ⟨q, q, q, q, q, q, q, trivial⟩ ⟨q, trivial⟩ trivial q⟩
        ·have h := bif_f h hb
         refine on q q q<|vm q q q q q<|on q q q<|ov (g_neq q q q q q) q<|vf q q q q q q<|on0<|Sq.n<|⟨(!decide (v112.1 = 3)), h, has_mk ⟨q, q, q, q, q, q, q, trivial⟩ ⟨q, trivial⟩ trivial q⟩
   ·rintro v137 h
    change s_24_j6 n v114 v116 v118 v120 v121 v137 = some r at h
    unfold s_24_j6 at h
    change W _ _ (⟨[(13, .pv (.sl (List.map eI v114.1))), (15, .pv (.sl (List.map eI v116.1))), (16, .pv (.i v116.2.1)), (18, .pv (.sl (List.map eI v118.1))), (20, .pv (.i v120.1)), (22, .box 22 0), (160, .pv (.b v137))], [(22, 27, [.pv (.sl (List.map cAcid v121.1.acids)), .pv (.i v121.1.known), .pv (.i v121.1.hours), .pv (.sl (List.map eI v121.1.adds)), .pv (.sl (List.map cStrip v121.1.strips)), .pv (.sl (List.map cBatch v121.1.batches))])], []⟩ : Env) _
    refine W.cond (b := v137) q (fun hc => ?_) (fun hc => ?_)
    ·have h := bif_t h hc
     refine W.seq<|W.region<|va q q q q q<|on0<|Sq.n<|W.ret<|Sq.r ?_
     obtain rfl := Option.some.inj h
     exact Fin.r q (.cons (.tmp _ _ q) .nil) q
    ·have h := bif_f h hc
     refine W.skip<|Sq.n<|W.seq<|W.region<|vm q q q q q<|Ops.r (g_buildSlice (cs := [.val (.int .i64 2)]) (es := List.map eI [2]) q q q el_23 ⟨_, zr_3⟩ q q q q q q) q q<|Ops.share (k := 162) q ?_
     obtain ⟨v138, e138, h⟩ := bind_some h
     refine ov (g_call q q q ca_58 q (c_58 _ _ _ e138)) q<|vm q q q q q<|Ops.split 164 q (fun hb => ?_) (fun hb => ?_)
     ·have h := bif_t h hb
      refine on q q q<|vm q q q q q<|on q q q<|Ops.r (g_buildSlice (cs := [.val (.int .i64 0), .val (.int .i64 0), .val (.int .i64 1)]) (es := List.map eI [0, 0, 1]) q q q el_23 ⟨_, zr_3⟩ q q q q q q) q q<|on q q q<|Ops.share (k := 166) q ?_
      obtain ⟨v139, e139, h⟩ := bind_some h
      refine ov (g_call q q q ca_58 q (c_58 _ _ _ e139)) q<|vt q q q q q q<|vm q q q q q<|Ops.split 169 q (fun hb => ?_) (fun hb => ?_)
      ·have h := bif_t h hb
       refine on q q q<|vm q q q q q<|on q q q<|ov (g_eql q q q q q) q<|vt q q q q q q<|vm q q q q q<|Ops.split 173 q (fun hb => ?_) (fun hb => ?_)
       ·have h := bif_t h hb
        refine on q q q<|vm q q q q q<|on q q q<|Ops.r (g_buildSlice (cs := [.val (.int .i64 0), .val (.int .i64 2)]) (es := List.map eI [0, 2]) q q q el_23 ⟨_, zr_3⟩ q q q q q q) q q<|on q q q<|Ops.share (k := 175) q ?_
        obtain ⟨v140, e140, h⟩ := bind_some h
        refine ov (g_call q q q ca_58 q (c_58 _ _ _ e140)) q<|vt q q q q q q<|vm q q q q q<|Ops.split 178 q (fun hb => ?_) (fun hb => ?_)
        ·have h := bif_t h hb
         refine on q q q<|vm q q q q q<|on q q q<|ov (g_eql q q q q q) q<|vt q q q q q q<|vm q q q q q<|Ops.split 182 q (fun hb => ?_) (fun hb => ?_)
         ·have h := bif_t h hb
          refine on q q q<|ov (g_loadA q q q q q ag_27 sz_27 q q) q<|on q q q ?_
          obtain ⟨v141, e141, h⟩ := bind_some h
          refine ov (g_call q q q ca_41 q (c_41 _ _ e141)) q<|on q q q<|ov (g_seq q q q q q) q<|vt q q q q q q<|va q q q q q<|on0<|Sq.n<|W.ret ?_
          obtain rfl := Option.some.inj h
          exact Fin.r q (.cons (.tmp _ _ q) .nil) q
         ·have h := bif_f h hb
          refine o2 q q q q q q<|o2 q q q q q q<|o2 q q q q q q<|vf q q q q q q<|va q q q q q<|on0<|Sq.n<|W.ret ?_
          obtain rfl := Option.some.inj h
          exact Fin.r q (.cons (.tmp _ _ q) .nil) q
        ·have h := bif_f h hb
         refine o2 q q q q q q<|o2 q q q q q q<|vf q q q q q q<|vm q q q q q<|o2 q q q q q q<|o2 q q q q q q<|o2 q q q q q q<|vf q q q q q q<|va q q q q q<|on0<|Sq.n<|W.ret ?_
         obtain rfl := Option.some.inj h
         exact Fin.r q (.cons (.tmp _ _ q) .nil) q
       ·have h := bif_f h hb
        refine o2 q q q q q q<|o2 q q q q q q<|o2 q q q q q q<|vf q q q q q q<|vm q q q q q<|o2 q q q q q q<|o2 q q q q q q<|vf q q q q q q<|vm q q q q q<|o2 q q q q q q<|o2 q q q q q q<|o2 q q q q q q<|vf q q q q q q<|va q q q q q<|on0<|Sq.n<|W.ret ?_
        obtain rfl := Option.some.inj h
        exact Fin.r q (.cons (.tmp _ _ q) .nil) q
      ·have h := bif_f h hb
       refine o2 q q q q q q<|o2 q q q q q q<|vf q q q q q q<|vm q q q q q<|o2 q q q q q q<|o2 q q q q q q<|o2 q q q q q q<|vf q q q q q q<|vm q q q q q<|o2 q q q q q q<|o2 q q q q q q<|vf q q q q q q<|vm q q q q q<|o2 q q q q q q<|o2 q q q q q q<|o2 q q q q q q<|vf q q q q q q<|va q q q q q<|on0<|Sq.n<|W.ret ?_
       obtain rfl := Option.some.inj h
       exact Fin.r q (.cons (.tmp _ _ q) .nil) q
     ·have h := bif_f h hb
      refine o2 q q q q q q<|o2 q q q q q q<|o2 q q q q q q<|vf q q q q q q<|vm q q q q q<|o2 q q q q q q<|o2 q q q q q q<|vf q q q q q q<|vm q q q q q<|o2 q q q q q q<|o2 q q q q q q<|o2 q q q q q q<|vf q q q q q q<|vm q q q q q<|o2 q q q q q q<|o2 q q q q q q<|vf q q q q q q<|vm q q q q q<|o2 q q q q q q<|o2 q q q q q q<|o2 q q q q q q<|vf q q q q q q<|va q q q q q<|on0<|Sq.n<|W.ret ?_
      obtain rfl := Option.some.inj h
      exact Fin.r q (.cons (.tmp _ _ q) .nil) q
end Go.Proofs.YtohmhlkdgfcaeaaGreatDoor
namespace Go.Proofs.YtohmhlkdgfcaeaaGreatDoor
theorem p_24 : s_24 1000 = some true := by kernel_rfl
#print axioms p_24
end Go.Proofs.YtohmhlkdgfcaeaaGreatDoor
namespace Go.Proofs.YtohmhlkdgfcaeaaGreatDoor
open Go Go.RowKit Go.ChangeShapes Go.WideShapes Go.Deep
def F0 (w : World) : Foot := ⟨fun b _ => b < w.heap.size, fun _ _ => False⟩
theorem F0.okay {w : World} {o0 o1 : Obj} (h0 : w.heap[0]? = some o0) (h1 : w.heap[1]? = some o1) (h : PT o0 o1) : (F0 w).ok w :=
 ⟨fun _ _ h => h, fun _ _ h => h.elim, fun _ _ _ h => h.elim, ⟨o0, o1, h0, h1, h, (Array.getElem?_eq_some_iff.1 h0).1, (Array.getElem?_eq_some_iff.1 h1).1⟩⟩
theorem F0.below {w w' : World} (h : Ext (F0 w) w w') : Below w.heap.size w w' :=
 ⟨h.os, h.tape, h.output, h.size, fun k hk => h.blk k hk (fun ⟨_, hm⟩ => hm.elim)⟩
def IntRow (P : Program) (e : TypeId) (sz : Nat) : Prop :=
 P.cellsOf e = sz ∧ ∀ (H : Type) (enc : TypeId × Value → H) (w : World) (sp : Nat → Bool) (fuel : Nat) (cs : List Value) (x : DataW H × List MemPlace), DataW.trod enc P w 0 sp true fuel e cs = some x → ∃ ns : List Int, ns.length = sz ∧ cs = ns.map (Value.int .i64)
section
variable {P : Program}
theorem IntRow.int {e : TypeId} (h : P.underlying e = some (.int .i64)) (hc : P.cellsOf e = 1) : IntRow P e 1 :=
 ⟨hc, fun H enc w sp fuel cs x hx => by
  obtain ⟨n, rfl, _, _⟩ := DataW.trod_int h hx
  exact ⟨[n], rfl, rfl⟩⟩
theorem IntRow.struct {e : TypeId} {fs : Array Field} {sz : Nat} (h : P.underlying e = some (.struct fs)) (hc : P.cellsOf e = sz)
  (hf : ∀ i, i < sz → ∃ (j k : Nat) (f : Field), fs[j]? = some f ∧ IntRow P f.type k ∧ f.offset ≤ i ∧ i < f.offset + k) : IntRow P e sz :=
 ⟨hc, fun H enc w sp fuel cs x hx => by
  obtain ⟨xs, n, _, _, hl, hlen, hfs⟩ := DataW.trod_struct h hx
  rw [hc] at hl
  have each : ∀ i, i < sz → ∃ m : Int, cs[i]? = some (.int .i64 m) := by
   intro i hi
   obtain ⟨j, k, f, hj, ⟨hk, hr⟩, h1, h2⟩ := hf i hi
   have hjs : j < fs.size := (Array.getElem?_eq_some_iff.1 hj).1
   have hx := hfs j f hj
   rw [List.getElem?_eq_getElem (by omega)] at hx
   obtain ⟨ns, hn, he⟩ := hr H enc w sp n _ _ hx
   have hg : ((cs.drop f.offset).take (P.cellsOf f.type))[i - f.offset]? = cs[i]? := by
    rw [List.getElem?_take, hk, if_pos (by omega), List.getElem?_drop, show f.offset + (i - f.offset) = i by omega]
   rw [he, List.getElem?_map] at hg
   have hlt : i - f.offset < ns.length := by omega
   rw [List.getElem?_eq_getElem hlt] at hg
   exact ⟨ns[i - f.offset], hg.symm⟩
  obtain ⟨g, hg⟩ := choose_lt (α := Int) each
  refine ⟨(List.range sz).map g, by simp, ?_⟩
  apply List.ext_getElem?
  intro i
  by_cases hi : i < sz
  ·rw [hg i hi]; simp [hi]
  ·rw [List.getElem?_eq_none (by omega), List.getElem?_eq_none (by simp; omega)]⟩
variable {H : Type} {enc : TypeId × Value → H} {w : World} {sp : Nat → Bool} {fuel : Nat}
theorem rd_slice {t e : TypeId} {sz : Nat} {c : Value} {x : DataW H × List MemPlace} (ht : P.underlying t = some (.slice e)) (he : IntRow P e sz) (hsz : 0 < sz) (h : DataW.trod enc P w 0 sp true fuel t [c] = some x) :
  ∃ rows : List (List Int), (∀ r ∈ rows, r.length = sz) ∧ Rd w (F0 w) (.sl (rows.map (fun r => r.map PV.i))) c := by
 obtain ⟨hc, hrow⟩ := he
 rcases open_slice ht h with ⟨hcs, _⟩ | ⟨a, len, cap, m, n, D, Pl, hcs, _, hl, _, hm, _, hx⟩
 ·obtain rfl : c = .slice none 0 0 := by simpa using hcs
  exact ⟨[], by simp, .sl [] none 0 0 sz ⟨0, 0, none⟩ (fun _ _ => default) rfl (Nat.le_refl _) (fun h => absurd h (by omega)) (by simp) (by simp) (by simp) (by simp)⟩
 ·obtain rfl : c = .slice (some a) len cap := by simpa using hcs
  have hlm : len ≤ m := by rw [hm]; split <;> omega
  obtain ⟨f, hf⟩ := choose_lt (α := List Int) (n := len) (p := fun i ns => ns.length = sz ∧ w.cells? 0 (a.add (i * sz)) sz = some (ns.map (Value.int .i64))) (fun i hi => by
   obtain ⟨cs', h1, h2⟩ := hx i (by omega)
   rw [hc] at h1
   obtain ⟨ns, h3, rfl⟩ := hrow H enc w sp n cs' _ h2
   exact ⟨ns, h3, h1⟩)
  have cell : ∀ i j, i < len → j < sz → ∃ z : Int, (f i)[j]? = some z ∧ w.cell? (a.add (i * sz + j)) = some (.int .i64 z) := by
   intro i j hi hj
   obtain ⟨h1, h2⟩ := hf i hi
   obtain ⟨_, _, h3⟩ := World.cells?_some h2
   have := h3 j hj
   rw [Addr.add_add, List.getElem?_map] at this
   refine ⟨(f i)[j], List.getElem?_eq_getElem (by omega), ?_⟩
   rw [this, List.getElem?_eq_getElem (by omega)]; rfl
  have get : ∀ (i : Nat) (e : List PV), (((List.range len).map f).map (fun r => r.map PV.i))[i]? = some e → i < len ∧ e = (f i).map PV.i := by
   intro i e he
   rw [List.getElem?_map, List.getElem?_map] at he
   by_cases hi : i < len
   ·rw [List.getElem?_range hi] at he
    exact ⟨hi, (Option.some.inj he).symm⟩
   ·rw [List.getElem?_eq_none (by simp; omega)] at he
    cases he
  refine ⟨(List.range len).map f, ?_, .sl _ (some a) len cap sz a (fun i j => .int .i64 ((f i)[j]?.getD 0)) (by simp) hl (fun h0 => ⟨rfl, ?_⟩) ?_ ?_ ?_ ?_⟩
  ·intro r hr
   obtain ⟨i, hi, rfl⟩ := List.mem_map.1 hr
   exact (hf i (List.mem_range.1 hi)).1
  ·obtain ⟨z, _, h2⟩ := cell 0 0 h0 hsz
   simpa [Addr.add] using World.cell?_spot h2
  ·intro i e he
   obtain ⟨hi, rfl⟩ := get i e he
   rw [List.length_map]; exact (hf i hi).1
  ·intro i e j c he hj
   obtain ⟨hi, rfl⟩ := get i e he
   rw [List.getElem?_map] at hj
   obtain ⟨z, hz, rfl⟩ := Option.map_eq_some_iff.1 hj
   have hjs : j < sz := by have := (List.getElem?_eq_some_iff.1 hz).1; rw [(hf i hi).1] at this; exact this
   obtain ⟨z', h1, h2⟩ := cell i j hi hjs
   rw [hz] at h1; cases h1
   rw [h2, hz]; rfl
  ·intro i e j c he hj
   obtain ⟨hi, rfl⟩ := get i e he
   rw [List.getElem?_map] at hj
   obtain ⟨z, hz, rfl⟩ := Option.map_eq_some_iff.1 hj
   have hjs : j < sz := by have := (List.getElem?_eq_some_iff.1 hz).1; rw [(hf i hi).1] at this; exact this
   obtain ⟨z', h1, h2⟩ := cell i j hi hjs
   exact World.block_lt_of_cell? w _ h2
  ·intro i e j c he hj
   obtain ⟨hi, rfl⟩ := get i e he
   rw [List.getElem?_map] at hj
   obtain ⟨z, hz, rfl⟩ := Option.map_eq_some_iff.1 hj
   rw [hz]
   exact .val _
def toAcid : List Int → Acid
 | [a, b, c, d] => ⟨⟨a, b⟩, ⟨c, d⟩⟩
 | _ => default
def toStrip : List Int → Strip
 | [a, b, c] => ⟨a, b, c⟩
 | _ => default
def toBatch : List Int → Batch
 | [a, b, c, d, e, f] => ⟨a, b, c, d, e, f⟩
 | _ => default
theorem acid_rows {rows : List (List Int)} (h : ∀ r ∈ rows, r.length = 4) : rows.map (fun r => r.map PV.i) = (rows.map toAcid).map cAcid := by
 rw [List.map_map]
 apply List.map_congr_left
 intro r hr
 match r, h r hr with
 | [a, b, c, d], _ => rfl
theorem strip_rows {rows : List (List Int)} (h : ∀ r ∈ rows, r.length = 3) : rows.map (fun r => r.map PV.i) = (rows.map toStrip).map cStrip := by
 rw [List.map_map]
 apply List.map_congr_left
 intro r hr
 match r, h r hr with
 | [a, b, c], _ => rfl
theorem batch_rows {rows : List (List Int)} (h : ∀ r ∈ rows, r.length = 6) : rows.map (fun r => r.map PV.i) = (rows.map toBatch).map cBatch := by
 rw [List.map_map]
 apply List.map_congr_left
 intro r hr
 match r, h r hr with
 | [a, b, c, d, e, f], _ => rfl
theorem int_rows {rows : List (List Int)} (h : ∀ r ∈ rows, r.length = 1) : rows.map (fun r => r.map PV.i) = (rows.map (fun r => r.headD 0)).map eI := by
 rw [List.map_map]
 apply List.map_congr_left
 intro r hr
 match r, h r hr with
 | [a], _ => rfl
end
end Go.Proofs.YtohmhlkdgfcaeaaGreatDoor
namespace Go.Proofs.YtohmhlkdgfcaeaaGreatDoor
open Go Go.RowKit Go.ChangeShapes Go.WideShapes Go.Deep
set_option maxRecDepth 100000
theorem ir3 : IntRow Tryz.prog 3 1 := .int Tryz.underlying3 (by kernel_rfl)
theorem ir_of {e sz : Nat} {fs : Array Field} (h : Tryz.prog.underlying e = some (.struct fs)) (hc : Tryz.prog.cellsOf e = sz)
  (hf : ((List.range sz).all fun i => match fs[i]? with | some f => (f.type == 3) && (f.offset == i) | none => false) = true) : IntRow Tryz.prog e sz :=
 .struct h hc (fun i hi => by
  have h1 := List.all_eq_true.1 hf i (List.mem_range.2 hi)
  cases h2 : fs[i]? with
  | none => rw [h2] at h1; cases h1
  | some f =>
   rw [h2] at h1
   simp only [Bool.and_eq_true, beq_iff_eq] at h1
   exact ⟨i, 1, f, h2, h1.1 ▸ ir3, by omega, by omega⟩)
theorem ir57 : IntRow Tryz.prog 57 2 := ir_of Tryz.underlying57 (by kernel_rfl) (by decide)
theorem ir92 : IntRow Tryz.prog 92 3 := ir_of Tryz.underlying92 (by kernel_rfl) (by decide)
theorem ir67 : IntRow Tryz.prog 67 6 := ir_of Tryz.underlying67 (by kernel_rfl) (by decide)
theorem ir137 : IntRow Tryz.prog 137 4 := .struct Tryz.underlying137 (by kernel_rfl) (fun i hi => by
 by_cases h : i < 2
 ·exact ⟨0, 2, _, rfl, ir57, Nat.zero_le _, by show i < 0 + 2; omega⟩
 ·exact ⟨1, 2, _, rfl, ir57, by show 2 ≤ i; omega, by show i < 2 + 2; omega⟩)
theorem tabs {W : World} (hs : W.ShapedOpen Tryz.prog) (hL : laidMetH Tryz.prog Rows.drumStrengthsRow.laid W) : ∃ o0 o1, W.heap[0]? = some o0 ∧ W.heap[1]? = some o1 ∧ PT o0 o1 := by
 rw [MakeChecks.laidMetH_plain _ _ _ (by kernel_rfl)] at hL
 obtain ⟨cs0, h0, hsz0, hok0⟩ := hs.1 0 #[.int .i64 0] 3 (by decide) (by kernel_rfl)
 obtain ⟨cs1, h1, hsz1, _⟩ := hs.1 1 (Array.replicate 20 (.int .u64 0)) 230 (by decide) (by kernel_rfl)
 refine ⟨_, _, h0, h1, ?_, 230, (0, 0), ?_⟩
 ·obtain ⟨ts, ht, _, hc⟩ := hok0 (by kernel_rfl)
  have ht2 : Tryz.prog.cellTypes Tryz.prog.depth 3 = some [3] := by kernel_rfl
  rw [ht2] at ht
  cases ht
  obtain ⟨l⟩ := cs0
  match l, hsz0, hc with
  | [c], _, hc =>
   obtain ⟨u, hu, hv⟩ := hc 0 c rfl
   obtain rfl : u = 3 := by simpa using hu.symm
   have hv : Value.okWide Tryz.prog W .any 0 3 c := by
    simp only [Value.okWide, Tryz.underlying3, Cell.okWide]
    exact hv
   obtain ⟨m, rfl⟩ := okWide_int Tryz.underlying3 hv
   exact ⟨m, 3, (0, 0), rfl⟩
 ·obtain ⟨g, t, cs, fuel, p, hg, ht, hv, hd⟩ := Lib.laidMet.reads hL (show ("internal/strconv.uint64pow10", Rows.laid_internal_strconv_uint64pow10) ∈ Rows.drumStrengthsRow.laid from .tail _ (.tail _ (.head _)))
  obtain rfl := Option.some.inj ((show Tryz.prog.globalNamed "internal/strconv.uint64pow10" = some 1 by kernel_rfl).symm.trans hg)
  obtain rfl := Option.some.inj ((show (Tryz.prog.globals[1]?).map (·.type) = some 230 by kernel_rfl).symm.trans ht)
  have e : (Rows.laid_internal_strconv_uint64pow10 : DataW Unit) = Lib.tabData .u64 Lib.pow10Tab := by kernel_rfl
  rw [e] at hd
  have h2 := Lib.cells_of_tab Tryz.underlying230 (by kernel_rfl) (by kernel_rfl) (by kernel_rfl) hd
  have h3 : cs1 = cs := by
   have : W.var? Tryz.prog "internal/strconv.uint64pow10" = some cs1 := by simp [World.var?, hg, h1]
   rw [this] at hv
   exact Option.some.inj hv
  rw [h3, ← h2]
section
variable {H : Type} {enc : TypeId × Value → H} {w : World} {fuel base : Nat}
theorem fld {fs : Array Field} {cs : List Value} {xs : List (DataW H × List MemPlace)} {n : Nat} (hf : ∀ (i : Nat) (f : Field), fs[i]? = some f → DataW.trod enc Tryz.prog w 0 (fun _ => true) true n f.type ((cs.drop f.offset).take (Tryz.prog.cellsOf f.type)) = xs[i]?)
  (i T : Nat) {v : Value} (hi : (fs[i]?).map (fun f => (f.type, f.offset)) = some (T, i)) (hc : Tryz.prog.cellsOf T = 1) (hv : cs[i]? = some v) (hx : i < xs.length) : ∃ y, DataW.trod enc Tryz.prog w 0 (fun _ => true) true n T [v] = some y := by
 obtain ⟨f, h1, h2⟩ := Option.map_eq_some_iff.1 hi
 cases h2
 have h3 := hf _ f h1
 rw [hc, List.getElem?_eq_getElem hx] at h3
 obtain ⟨hlt, rfl⟩ := List.getElem?_eq_some_iff.1 hv
 rw [List.drop_eq_getElem_cons hlt, List.take_succ_cons, List.take_zero] at h3
 exact ⟨_, h3⟩
theorem int_of {n : Nat} {v : Value} {y : DataW H × List MemPlace} (h : DataW.trod enc Tryz.prog w 0 (fun _ => true) true n 3 [v] = some y) : ∃ m : Int, v = .int .i64 m := by
 obtain ⟨m, h1, _⟩ := DataW.trod_int Tryz.underlying3 h
 exact ⟨m, by simpa using h1⟩
theorem agg_of {t : TypeId} {fs : Array Field} {v : Value} (ht : Tryz.prog.underlying t = some (.struct fs)) (h0 : Value.okWide Tryz.prog w .any base t v) : ∃ l : List Value, v = .agg ⟨l⟩ ∧ l.length = Tryz.prog.cellsOf t := by
 simp only [Value.okWide, ht] at h0
 obtain ⟨cs, rfl, h1, _⟩ := h0
 exact ⟨cs.toList, rfl, h1⟩
theorem rd_drum {v : Value} {d : DataW H} {p : List MemPlace} (h0 : Value.okWide Tryz.prog w .any base 27 v) (h : DataW.Trod enc Tryz.prog w 0 (fun _ => true) true 27 v d p) : ∃ x : Drum, Rd w (F0 w) (.agg (cDrum x)) v := by
 obtain ⟨l, rfl, hl⟩ := agg_of Tryz.underlying27 h0
 obtain ⟨fuel, hf⟩ := h
 obtain ⟨xs, n, _, _, _, hlen, hfs⟩ := DataW.trod_struct Tryz.underlying27 hf
 have hlen : xs.length = 6 := hlen
 rw [show Tryz.prog.cellsOf 27 = 6 by kernel_rfl] at hl
 match l, hl with
 | [v0, v1, v2, v3, v4, v5], _ =>
  obtain ⟨y0, e0⟩ := fld hfs 0 22 rfl (by kernel_rfl) rfl (by omega)
  obtain ⟨y1, e1⟩ := fld hfs 1 3 rfl (by kernel_rfl) rfl (by omega)
  obtain ⟨y2, e2⟩ := fld hfs 2 3 rfl (by kernel_rfl) rfl (by omega)
  obtain ⟨y3, e3⟩ := fld hfs 3 23 rfl (by kernel_rfl) rfl (by omega)
  obtain ⟨y4, e4⟩ := fld hfs 4 24 rfl (by kernel_rfl) rfl (by omega)
  obtain ⟨y5, e5⟩ := fld hfs 5 25 rfl (by kernel_rfl) rfl (by omega)
  obtain ⟨r0, a0, b0⟩ := rd_slice Tryz.underlying22 ir137 (by omega) e0
  obtain ⟨m1, rfl⟩ := int_of e1
  obtain ⟨m2, rfl⟩ := int_of e2
  obtain ⟨r3, a3, b3⟩ := rd_slice Tryz.underlying23 ir3 (by omega) e3
  obtain ⟨r4, a4, b4⟩ := rd_slice Tryz.underlying24 ir92 (by omega) e4
  obtain ⟨r5, a5, b5⟩ := rd_slice Tryz.underlying25 ir67 (by omega) e5
  rw [acid_rows a0] at b0
  rw [int_rows a3] at b3
  rw [strip_rows a4] at b4
  rw [batch_rows a5] at b5
  refine ⟨⟨r0.map toAcid, m1, m2, r3.map (fun r => r.headD 0), r4.map toStrip, r5.map toBatch⟩, .agg (cDrum ⟨r0.map toAcid, m1, m2, r3.map (fun r => r.headD 0), r4.map toStrip, r5.map toBatch⟩) #[v0, .int .i64 m1, .int .i64 m2, v3, v4, v5] rfl ?_⟩
  intro j c u hc hu
  match j, hc, hu with
  | 0, hc, hu => cases hc; cases hu; exact b0
  | 1, hc, hu => cases hc; cases hu; exact .val _
  | 2, hc, hu => cases hc; cases hu; exact .val _
  | 3, hc, hu => cases hc; cases hu; exact b3
  | 4, hc, hu => cases hc; cases hu; exact b4
  | 5, hc, hu => cases hc; cases hu; exact b5
theorem rd_truth {v : Value} {d : DataW H} {p : List MemPlace} (h0 : Value.okWide Tryz.prog w .any base 54 v) (h : DataW.Trod enc Tryz.prog w 0 (fun _ => true) true 54 v d p) : ∃ x : Truth, Rd w (F0 w) (.agg (cTruth x)) v := by
 obtain ⟨l, rfl, hl⟩ := agg_of Tryz.underlying54 h0
 obtain ⟨fuel, hf⟩ := h
 obtain ⟨xs, n, _, _, _, hlen, hfs⟩ := DataW.trod_struct Tryz.underlying54 hf
 have hlen : xs.length = 2 := hlen
 rw [show Tryz.prog.cellsOf 54 = 2 by kernel_rfl] at hl
 match l, hl with
 | [v0, v1], _ =>
  obtain ⟨y0, e0⟩ := fld hfs 0 3 rfl (by kernel_rfl) rfl (by omega)
  obtain ⟨y1, e1⟩ := fld hfs 1 23 rfl (by kernel_rfl) rfl (by omega)
  obtain ⟨m0, rfl⟩ := int_of e0
  obtain ⟨r1, a1, b1⟩ := rd_slice Tryz.underlying23 ir3 (by omega) e1
  rw [int_rows a1] at b1
  refine ⟨⟨m0, r1.map (fun r => r.headD 0)⟩, .agg (cTruth ⟨m0, r1.map (fun r => r.headD 0)⟩) #[.int .i64 m0, v1] rfl ?_⟩
  intro j c u hc hu
  match j, hc, hu with
  | 0, hc, hu => cases hc; cases hu; exact .val _
  | 1, hc, hu => cases hc; cases hu; exact b1
theorem rd_strip {v : Value} {d : DataW H} {p : List MemPlace} (h0 : Value.okWide Tryz.prog w .any base 92 v) (h : DataW.Trod enc Tryz.prog w 0 (fun _ => true) true 92 v d p) : ∃ x : Strip, Rd w (F0 w) (.agg (cStrip x)) v := by
 obtain ⟨l, rfl, _⟩ := agg_of Tryz.underlying92 h0
 obtain ⟨fuel, hf⟩ := h
 obtain ⟨ns, hn, he⟩ := ir92.2 H enc w _ fuel _ _ hf
 match ns, hn with
 | [a, b, c], _ =>
  have he : l = [.int .i64 a, .int .i64 b, .int .i64 c] := he
  subst he
  refine ⟨⟨a, b, c⟩, .agg (cStrip ⟨a, b, c⟩) #[.int .i64 a, .int .i64 b, .int .i64 c] rfl ?_⟩
  intro j c u hc hu
  match j, hc, hu with
  | 0, hc, hu => cases hc; cases hu; exact .val _
  | 1, hc, hu => cases hc; cases hu; exact .val _
  | 2, hc, hu => cases hc; cases hu; exact .val _
theorem rd_list {v : Value} {d : DataW H} {p : List MemPlace} (h0 : Value.okWide Tryz.prog w .any base 23 v) (h : DataW.Trod enc Tryz.prog w 0 (fun _ => true) true 23 v d p) : ∃ x : List Int, Rd w (F0 w) (.sl (x.map eI)) v := by
 obtain ⟨a, n, c, rfl⟩ := okWide_slice Tryz.underlying23 h0
 obtain ⟨fuel, hf⟩ := h
 obtain ⟨r1, a1, b1⟩ := rd_slice Tryz.underlying23 ir3 (by omega) (show DataW.trod enc Tryz.prog w 0 (fun _ => true) true fuel 23 [.slice a n c] = some _ from hf)
 rw [int_rows a1] at b1
 exact ⟨_, b1⟩
theorem rd_int {v : Value} (h0 : Value.okWide Tryz.prog w .any base 3 v) : ∃ x : Int, Rd w (F0 w) (.i x) v := by
 obtain ⟨n, rfl⟩ := okWide_int Tryz.underlying3 h0
 exact ⟨n, .val _⟩
theorem rd_string {v : Value} (h0 : Value.okWide Tryz.prog w .any base 9 v) : ∃ x : ByteArray, Rd w (F0 w) (.s x) v := by
 obtain ⟨n, rfl⟩ := okWide_string Tryz.underlying9 h0
 exact ⟨n, .val _⟩
end
end Go.Proofs.YtohmhlkdgfcaeaaGreatDoor
namespace Go.Proofs.YtohmhlkdgfcaeaaGreatDoor
open Go Go.RowKit Go.ChangeShapes Go.WideShapes Go.Deep
set_option maxRecDepth 100000
theorem ownK : ownKnob Tryz.prog.godebug = none := by kernel_rfl
theorem laidOutK : laidOutB Tryz.prog = true := by kernel_rfl
def ParT (t : TypeId) : Prop := Tryz.prog.readableRec t = true ∧ t < Tryz.prog.types.size
section
variable {H : Type} {enc : TypeId × Value → H} {W W' : World}
theorem all_below (hb : Below W.heap.size W W') : ∀ (ts : List TypeId) (vs : List Value) (ds : List (DataW H)) (ps : List MemPlace), (∀ t ∈ ts, ParT t) → (∀ x ∈ ps, x.block < W.heap.size) →
  DataW.TrodAll enc Tryz.prog W 0 (fun _ => true) true ts vs ds ps → DataW.TrodAll enc Tryz.prog W' 0 (fun b => decide (b < W.heap.size)) true ts vs ds ps := by
 intro ts
 induction ts with
 | nil =>
  intro vs ds ps _ _ h
  obtain ⟨rfl, rfl, rfl⟩ := trodAll_nil h
  exact rfl
 | cons t ts ih =>
  intro vs ds ps hp hlt h
  obtain ⟨v, vs', d, ds', p, q, rfl, rfl, rfl, h1, h2⟩ := trodAll_cons h
  obtain ⟨a1, a2⟩ := hp t List.mem_cons_self
  exact ⟨p, q, Below.trod laidOutK a1 a2 h1 hb (fun x hx => hlt x (List.mem_append_left _ hx)), ih vs' ds' q (fun u hu => hp u (List.mem_cons_of_mem _ hu)) (fun x hx => hlt x (List.mem_append_right _ hx)) h2, rfl⟩
end
theorem returns_shaped {os : Os} {f : FuncId} {fn : Func} {s : ChangeSpec} {H : Type} {enc : TypeId × Value → H} (started : os.Started) (noInit : Tryz.prog.inits.idxOf? f = none) (hfn : Tryz.prog.funcs[f]? = some fn)
  (witness : ∃ (w : World) (tape : Tape) (i : Input), w.os = os ∧ (w.forCall tape i).Shaped Tryz.prog ∧ i.vars = [] ∧ Input.okWide Tryz.prog (w.forCall tape i) .any w.heap.size f i ∧
   ((s.pre enc Tryz.prog fn [] false (w.forCall tape i).memory i.args ∧ laidMetH Tryz.prog Rows.drumStrengthsRow.laid (w.forCall tape i).memory) ∧ sizedMet enc Tryz.prog fn (OpenSpec.ofChange s) false (w.forCall tape i).memory i.args) ∧
   ({} : Assume).holds Tryz.prog (lone (Frame.enter Tryz.prog f i.args .normal) [] (w.forCall tape i)))
  (contract : ∀ (W : World) (base : Nat) (args : Array Value) (ds gs : List (DataW H)) (before : List MemPlace), W.ShapedOpen Tryz.prog →
   (∀ (j : Nat) t v, fn.params[j]? = some t → args[j]? = some v → Value.okWide Tryz.prog W .any base t v) →
   DataW.Whole enc Tryz.prog fn.params.toList s.vars false W args.toList ds gs before → laidMetH Tryz.prog Rows.drumStrengthsRow.laid W →
   Calls Tryz.prog f args W fun e W' => ∃ v, e = .returned v ∧ s.post enc Tryz.prog fn false true false false W args v W') :
  ReturnsInHanded {} Tryz.checked os f .any (fun w args => (s.pre enc Tryz.prog fn [] false w args ∧ laidMetH Tryz.prog Rows.drumStrengthsRow.laid w) ∧ sizedMet enc Tryz.prog fn (OpenSpec.ofChange s) false w args)
   (s.post enc Tryz.prog fn false true false false) := by
 refine returnsInHanded_of_calls (C := Tryz.checked) ownK started noInit witness ?_
 intro w tape i _ hsh _ hok hpre _
 obtain ⟨_, _, _, fn', hfn', _, _, _, _, hval⟩ := hok
 obtain rfl : fn' = fn := Option.some.inj (hfn'.symm.trans hfn)
 obtain ⟨⟨⟨ds, gs, before, hw, _⟩, hx⟩, _⟩ := hpre
 have hw' := DataW.Whole.of_heap (w' := w.forCall tape i) (by rfl) hw
 refine (contract (w.forCall tape i) w.heap.size i.args ds gs before hsh hval hw' (hx.of_heap (by rfl))).mono fun e W' ⟨v, he, hp⟩ => ?_
 subst he
 exact ChangeSpec.post_blind hp
theorem law_row {os : Os} {f : FuncId} {fn : Func} {s : ChangeSpec} {H : Type} {enc : TypeId × Value → H} (started : os.Started) (wargs : Array Value) (noInit : Tryz.prog.inits.idxOf? f = none) (hfn : Tryz.prog.funcs[f]? = some fn)
  (hok : Input.okWideB Tryz.prog ((World.laidAll Tryz.prog os Rows.drumStrengthsRow.laid).forCall (fun _ _ => 0) ⟨#[], wargs, []⟩) f ⟨#[], wargs, []⟩ = true)
  (hpre : s.preB enc Tryz.prog fn [] false ((World.laidAll Tryz.prog os Rows.drumStrengthsRow.laid).forCall (fun _ _ => 0) ⟨#[], wargs, []⟩).memory wargs 8 = true)
  (hsz : s.sizedB enc Tryz.prog fn false ((World.laidAll Tryz.prog os Rows.drumStrengthsRow.laid).forCall (fun _ _ => 0) ⟨#[], wargs, []⟩).memory wargs 8 = true)
  (hres : fn.resultTypes = #[4]) (hpar : ∀ t ∈ fn.params.toList, ParT t) (hvars : s.vars = [])
  (hfnS : ∀ ds : List (DataW H), ds.length = fn.params.toList.length → s.fn H ds = { results := [.lit (.bool true)], args := ds })
  (law : ∀ (W : World) (base : Nat) (args : Array Value) (ds : List (DataW H)) (p : List MemPlace),
   (∀ (j : Nat) t v, fn.params[j]? = some t → args[j]? = some v → Value.okWide Tryz.prog W .any base t v) → DataW.TrodAll enc Tryz.prog W 0 (fun _ => true) true fn.params.toList args.toList ds p →
   ds.length = fn.params.toList.length ∧ ∃ xs : List PV, RdL W (F0 W) xs args ∧ Fun Tryz.prog f xs (.ret (.b true))) :
  ReturnsInHanded {} Tryz.checked os f .any (fun w args => (s.pre enc Tryz.prog fn [] false w args ∧ laidMetH Tryz.prog Rows.drumStrengthsRow.laid w) ∧ sizedMet enc Tryz.prog fn (OpenSpec.ofChange s) false w args)
   (s.post enc Tryz.prog fn false true false false) := by
 refine returns_shaped started noInit hfn
  (ChangeSpec.witness_shaped (enc := enc) (C := Tryz.checked) (os := os) (X := fun w _ => laidMetH Tryz.prog Rows.drumStrengthsRow.laid w) false (World.laidAll Tryz.prog os Rows.drumStrengthsRow.laid) wargs 8 (World.laidAll_os _ _ _)
   (World.shaped_of_ZipB (by kernel_rfl) (by kernel_rfl)) hok hpre hsz
   (by rw [MakeChecks.laidMetH_plain _ _ _ (by kernel_rfl)]; exact laidMet_laidAll _ (by kernel_rfl) (by kernel_rfl))) ?_
 intro W base args ds gs before hsh hval hW hL
 obtain ⟨o0, o1, t0, t1, hT⟩ := tabs hsh hL
 have hW' := hW
 obtain ⟨p, q, hA, hV, rfl, _, _⟩ := hW
 rw [hvars] at hV
 obtain ⟨rfl, rfl⟩ := trodVars_none hV
 obtain ⟨hlen, xs, hxs, hfun⟩ := law W base args ds p hval hA
 refine (hfun W (F0 W) args (F0.okay t0 t1 hT) hxs).mono fun e W' ⟨F', hext, _, _, v, he, hv⟩ => ?_
 subst he
 have hv : v = .bool true := by cases hv; rfl
 subst hv
 have hb := F0.below hext
 have hlt : ∀ x ∈ p, x.block < W.heap.size := fun x hx => by simpa using hW'.lt x (List.mem_append_left _ hx)
 refine ⟨_, rfl, ds, [], p ++ [], [], p, [], hW', ?_, ?_, ?_, hb.frame _, fun h => by cases h⟩
 ·rw [List.append_nil, hfnS ds hlen, hres]
  exact trodAll_mk1 (shut_bool Tryz.underlying4 true)
 ·rw [List.append_nil, hfnS ds hlen]
  exact all_below hb _ _ _ _ hpar hlt hA
 ·rw [hvars]
  rw [List.append_nil, hfnS ds hlen]
  exact rfl
end Go.Proofs.YtohmhlkdgfcaeaaGreatDoor
namespace Go.Proofs.YtohmhlkdgfcaeaaGreatDoor
open Go Go.RowKit
set_option maxRecDepth 100000
def factsA (P : Program) (fn : Func) (s : ChangeSpec) (c : OpenClaim) : Bool :=
 c.wf (OpenSpec.ofChange s) && ((fn.params.all (P.readableRec ·)) && (namedTie P c.named s.vars &&
 ((c.stops == []) && ((c.knobs == []) &&
 ((c.maps == (fn.params.toList ++ s.plain.varTypes P).any (P.mapsRec ·)) && ((c.ifaces == (fn.params.toList ++ s.plain.varTypes P).any (P.ifacesRec ·)) && ((c.mapsOut == P.mapsAmong fn.resultTypes.toList) &&
 ((c.loops == (fn.params.toList ++ s.plain.varTypes P).any (P.loopsFrom ·)) && ((c.wideKeys == (fn.params.toList ++ s.plain.varTypes P ++ fn.resultTypes.toList).any (P.wideKeysFrom ·)) &&
 ((s.vars.all (P.varReadable ·)) && ((fn.resultTypes.all (fun t => P.readableRec t && decide (t < P.types.size))) && ((c.ifacesOut == fn.resultTypes.toList.any (P.ifacesRec ·)) && ((c.loopsOut == fn.resultTypes.toList.any (P.loopsFrom ·)) &&
 ((c.plainKeys == P.plainKeys) && (c.shortTexts.isNone && ((c.lifted == P.liftsFinal) && ((P.make == some c.make) &&
 (c.domain.isEmpty && ((c.kinds == []) && ((c.pinned == c.pinnedBy) &&
 ((c.veiled == (fn.params.toList ++ s.plain.varTypes P ++ fn.resultTypes.toList).any (P.veiledRec ·)) && c.veiledFits P fn.params.toList (fn.params.toList ++ s.plain.varTypes P ++ fn.resultTypes.toList))))))))))))))))))))))
theorem and_two {a b : Bool} (h : (a && b) = true) : a = true ∧ b = true := by simpa using h
theorem mapsRowedK : mapsRowed Tryz.prog = true := by kernel_rfl
theorem stopsK : (Tryz.prog.stops == []) = true := by kernel_rfl
theorem knobsK : (Tryz.prog.stopKnobs == []) = true := by kernel_rfl
theorem heardK : Tryz.prog.stopsHeard = true := by kernel_rfl
theorem enterK : Tryz.prog.mayEnter = true := by kernel_rfl
theorem joined_of {f : FuncId} {fn : Func} {s : ChangeSpec} {c : OpenClaim} (hA : factsA Tryz.prog fn s c = true)
  (h1 : (c.inPlace == Tryz.prog.inPlace f) = true) (h2 : (c.unfollowed == Tryz.prog.unfollowed f) = true) (h3 : (c.recurses == Tryz.prog.recurses f) = true) (h4 : (c.named == Tryz.prog.varsNamed f) = true) : joinedFacts Tryz.prog f fn s c = true := by
 unfold factsA at hA
 obtain ⟨a1, r0⟩ := and_two hA
 obtain ⟨a2, r1⟩ := and_two r0
 obtain ⟨a3, r2⟩ := and_two r1
 obtain ⟨a4, r3⟩ := and_two r2
 obtain ⟨a5, r4⟩ := and_two r3
 obtain ⟨a6, r5⟩ := and_two r4
 obtain ⟨a7, r6⟩ := and_two r5
 obtain ⟨a8, r7⟩ := and_two r6
 obtain ⟨a9, r8⟩ := and_two r7
 obtain ⟨a10, r9⟩ := and_two r8
 obtain ⟨a11, r10⟩ := and_two r9
 obtain ⟨a12, r11⟩ := and_two r10
 obtain ⟨a13, r12⟩ := and_two r11
 obtain ⟨a14, r13⟩ := and_two r12
 obtain ⟨a15, r14⟩ := and_two r13
 obtain ⟨a16, r15⟩ := and_two r14
 obtain ⟨a17, r16⟩ := and_two r15
 obtain ⟨a18, r17⟩ := and_two r16
 obtain ⟨a19, r18⟩ := and_two r17
 obtain ⟨a19b, r19⟩ := and_two r18
 obtain ⟨a20, r20⟩ := and_two r19
 obtain ⟨a21, a22⟩ := and_two r20
 unfold joinedFacts
 rw [a1, laidOutK, mapsRowedK, a2, a3, a4, stopsK, a5, knobsK, h1, h2, h3, h4, a6, a7, a8, a9, a10, a11, a12, a13, a14, a15, a16, heardK, enterK, a17, a18, if_pos a19, a19b, a20, a21, a22]
 rfl
theorem mainK : Tryz.prog.mainIs = some (true, "263524fd91af563947b647e8709e73ef988cdef21cccd4074f632dc410392126".toList) := by kernel_rfl
theorem looksK : true = Tryz.prog.looks [] := by kernel_rfl
theorem standK : ∀ t ∈ [3, 9, 23, 27, 54, 92], Tryz.prog.wantsStandIn t = false := by
 have h : ([3, 9, 23, 27, 54, 92].all fun t => !Tryz.prog.wantsStandIn t) = true := by kernel_rfl
 intro t ht
 simpa using List.all_eq_true.1 h t ht
end Go.Proofs.YtohmhlkdgfcaeaaGreatDoor
