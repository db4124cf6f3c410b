/- What all claims of this seat share, part 7: the engine, the contracts, the frame. -/
import Derived.RangeFuncLeaves
import Derived.KernelRfl
import Derived.Test.YtohmhlkdgfcaeaaGreatDoorK6
set_option linter.unusedVariables false
set_option linter.unusedSimpArgs false
namespace Go.Proofs.YtohmhlkdgfcaeaaGreatDoor
open Go Go.RowKit
set_option maxRecDepth 4000
attribute [local irreducible] W GS GSG
theorem c_141 (d : Drum) : Fun Tryz.prog 141 [.agg (cDrum d)] (.ret (.fn 171 [] [.ref (cDrum d)])) := by
 refine enterW 4 Tryz.func141 rfl rfl rfl ?_
 intro w0 F0
 change W _ _ (⟨[(0, .pv (.agg (cDrum d)))], [], []⟩ : Env) _
 refine W.seq ?_
 refine W.region ?_
 refine Ops.b (g_box rfl rfl rfl rfl rfl) rfl rfl ?_
 refine Ops.v (g_assign rfl rfl rfl rfl) rfl ?_
 refine Ops.nil ?_
 refine Sq.n ?_
 refine W.seq ?_
 refine W.conv (Conv.freeze (k := 1) (cs := cDrum d) rfl) ?_
 refine W.region ?_
 refine Ops.v (g_makeFunc (first := []) (caps := [.tmp 1]) rfl rfl rfl rfl rfl) rfl ?_
 refine Ops.v (g_assign rfl rfl rfl rfl) rfl ?_
 refine Ops.nil ?_
 refine Sq.n ?_
 refine W.ret ?_
 exact Fin.r rfl (.cons (.tmp _ _ rfl) .nil) rfl
theorem ex111 : ElX Tryz.prog 111 115 8 := ElX.of (by kernel_rfl) (by kernel_rfl) rfl
theorem ag111 : AggIs Tryz.prog 111 false := AggIs.mk (by kernel_rfl)
theorem sz111 : SzIs Tryz.prog 111 1 := SzIs.mk (by kernel_rfl)
theorem zr111 : ZeroIs Tryz.prog 111 [.slice none 0 0] := ZeroIs.mk (by kernel_rfl)
theorem iz115 : ∃ i, Tryz.prog.info? 115 = some i ∧ i.zero = some (.agg #[.slice none 0 0, .int .i64 0, .int .i64 0, .slice none 0 0, .slice none 0 0, .slice none 0 0, .int .i64 0, .slice none 0 0]) := by
 have h : (Tryz.prog.info? 115).bind (fun i => i.zero) = some (.agg #[.slice none 0 0, .int .i64 0, .int .i64 0, .slice none 0 0, .slice none 0 0, .slice none 0 0, .int .i64 0, .slice none 0 0]) := by kernel_rfl
 exact Option.bind_eq_some_iff.1 h
theorem alloc_setRow (w : World) (us us' : Array Value) (T : TypeId) : (w.alloc (.cells us T)).setRow w.heap.size us' = w.alloc (.cells us' T) := by
 have h : ((w.alloc (.cells us T)).setRow w.heap.size us').heap = (w.alloc (.cells us' T)).heap := by
  apply Array.ext_getElem?
  intro i
  by_cases hi : i = w.heap.size
  ·subst hi
   rw [setRow_heap _ _ _ _ _ _ (heap_alloc_new w (.cells us T)), heap_alloc_new]
  ·rw [heap_setRow_ne _ _ hi]
   show (w.heap.push _)[i]? = (w.heap.push _)[i]?
   simp [Array.getElem?_push, hi]
 exact congrArg (fun h => ({ w with heap := h } : World)) h
theorem run_eqI {P : Program} {k : IntKind} {T : TypeId} (a b : Int) (w : World) : (binOp .eql T (.int k a) (.int k b)).run P w = .ok (.bool (decide (a = b))) w := by simp [binOp, Op.intCmp]; rfl
theorem c_84a (n : Nat) (d : Drum) (fine b : Bool) (hb : s_104 n d = some b) (he : (!b || !fine) = true) : Fun Tryz.prog 84 [.agg (cDrum d), .b fine] (.ret (.tup [.sl [], .val (.int .i64 2)])) := by
 refine enterW 26 Tryz.func84 rfl rfl rfl ?_
 intro w0 F0
 change W _ _ (⟨[(0, .pv (.agg (cDrum d))), (1, .pv (.b fine))], [], []⟩ : Env) _
 refine W.seq ?_
 refine W.region ?_
 refine Ops.b (g_box rfl rfl rfl rfl rfl) rfl rfl ?_
 refine Ops.v (g_assign rfl rfl rfl rfl) rfl ?_
 refine Ops.v (g_assign rfl rfl rfl rfl) rfl ?_
 refine Ops.nil ?_
 refine Sq.n ?_
 refine W.seq ?_
 refine W.seq ?_
 refine W.region ?_
 refine Ops.v (g_loadA rfl rfl rfl rfl rfl ag_27 sz_27 rfl rfl) rfl ?_
 refine Ops.v (g_call rfl rfl rfl ca_104 rfl (c_104 _ _ hb)) rfl ?_
 refine Ops.v (g_not rfl rfl rfl rfl) rfl ?_
 refine Ops.v (g_move rfl rfl rfl rfl) rfl ?_
 cases b with
 | false =>
  refine Ops.off2 rfl rfl rfl rfl rfl rfl ?_
  refine Ops.off2 rfl rfl rfl rfl rfl rfl ?_
  refine Ops.v (g_pickT rfl rfl rfl rfl rfl) rfl ?_
  refine Ops.nil ?_
  refine Sq.n ?_
  refine W.cond (b := true) rfl (fun hc => ?_) (fun hc => absurd hc (by decide))
  refine W.seq ?_
  refine W.region ?_
  refine Ops.v (g_assign rfl rfl rfl rfl) rfl ?_
  refine Ops.v (g_assign rfl rfl rfl rfl) rfl ?_
  refine Ops.nil ?_
  refine Sq.n ?_
  refine W.conv (Conv.nilsl 4 rfl) ?_
  refine W.ret ?_
  refine Sq.r ?_
  exact Fin.r rfl (.cons (.tmp _ _ rfl) (.cons (.tmp _ _ rfl) .nil)) rfl
 | true =>
  cases fine with
  | true => cases he
  | false =>
   refine Ops.on rfl rfl rfl ?_
   refine Ops.v (g_move rfl rfl rfl rfl) rfl ?_
   refine Ops.on rfl rfl rfl ?_
   refine Ops.v (g_not rfl rfl rfl rfl) rfl ?_
   refine Ops.v (g_pickF rfl rfl rfl rfl rfl) rfl ?_
   refine Ops.nil ?_
   refine Sq.n ?_
   refine W.cond (b := true) rfl (fun hc => ?_) (fun hc => absurd hc (by decide))
   refine W.seq ?_
   refine W.region ?_
   refine Ops.v (g_assign rfl rfl rfl rfl) rfl ?_
   refine Ops.v (g_assign rfl rfl rfl rfl) rfl ?_
   refine Ops.nil ?_
   refine Sq.n ?_
   refine W.conv (Conv.nilsl 4 rfl) ?_
   refine W.ret ?_
   refine Sq.r ?_
   exact Fin.r rfl (.cons (.tmp _ _ rfl) (.cons (.tmp _ _ rfl) .nil)) rfl
def E84 (d : Drum) (pre : List Filled) : Env := ⟨[(16, .pv (.fn 171 [] [.ref (cDrum d)])), (6, .box 6 0)], [(6, 111, [.row 600])], [(600, ⟨115, 8, pre.map cFilled⟩)]⟩
def I84 (w : World) (F : Foot) (d : Drum) (a : Act) (pre : List Filled) (W : World) (F' : Foot) : Prop := ∃ g, Rel w F 26 g F' (E84 d pre) a W
def M84 (w : World) (F : Foot) (d : Drum) (a : Act) (pre : List Filled) (x : Filled) (a1 : Act) (W : World) (F' : Foot) : Prop :=
 (∃ g, Rel w F 26 g F' ⟨(7, .box 7 0) :: (E84 d pre).ts, (7, 115, (cFilled x).map .pv) :: (E84 d pre).bs, (E84 d pre).rs⟩ a1 W) ∧ a1.tmps[6]? = a.tmps[6]? ∧ a1.tmps[16]? = a.tmps[16]?
theorem c_84 (n : Nat) (d : Drum) (fine : Bool) {r : List Filled × Int} (h : s_84 n d fine = some r) : Fun Tryz.prog 84 [.agg (cDrum d), .b fine] (.ret (.tup [.sl (r.1.map cFilled), .val (.int .i64 r.2)])) := by
 unfold s_84 at h
 obtain ⟨b, eb, h⟩ := bind_some h
 cases he : (!b || !fine) with
 | true =>
  have h := bif_t h he
  obtain rfl := Option.some.inj h
  exact c_84a n d fine b eb he
 | false =>
 have h := bif_f h he
 obtain rfl : b = true := by cases b <;> simp_all
 obtain rfl : fine = true := by cases fine <;> simp_all
 obtain ⟨l, el, h⟩ := bind_some h
 clear he
 intro w F vs hok hvs
 refine callsIn_wide.1 (callsIn_of_wp_marks (F := Fence.wide) (n := 0) Tryz.func84 rfl trivial ?_)
 refine wpIn_gen (Pr := fun a => a.tmps.size = 26 ∧ (∃ u, a.tmps[0]? = some u ∧ Rd w F (.agg (cDrum d)) u) ∧ a.tmps[1]? = some (.bool true) ∧ a.defers = []) ?_ ?_
 ·obtain ⟨v0, v1, rfl, h0, h1⟩ := hvs.two
  obtain rfl := rd_val h1
  refine ⟨by simp [Tryz.ntmps84], ⟨v0, by simp, h0⟩, by simp, rfl⟩
 rintro a ⟨hs, ⟨u0, e0, h0⟩, e1, hd⟩
 refine wpIn_seq ?_
 refine wide_reg (X := ⟨Tryz.prog, w, F, 26⟩) (E := ⟨[(0, .pv (.agg (cDrum d))), (1, .pv (.b true))], [], []⟩) (K := fun E' => E'.has (⟨[(1, .pv (.b true)), (2, .box 2 0)], [(2, 27, (cDrum d).map .pv)], []⟩ : Env)) [] rfl (Rel.start hok hd hs (slots_ok ?_)) ?_ ?_
 ·intro q hq
  simp only [List.mem_cons, List.not_mem_nil, or_false] at hq
  rcases hq with rfl | rfl
  ·exact ⟨_, e0, h0⟩
  ·exact ⟨_, e1, Rd.val _⟩
 ·refine Ops.b (g_box rfl rfl rfl rfl rfl) rfl rfl ?_
  refine Ops.v (g_assign rfl rfl rfl rfl) rfl ?_
  refine Ops.v (g_assign rfl rfl rfl rfl) rfl ?_
  refine Ops.nil ?_
  exact has_mk ⟨rfl, rfl, trivial⟩ ⟨rfl, trivial⟩ trivial rfl
 rintro a1 w1 g1 F1 E1 hr1 hK1 _
 obtain ⟨g1', hr1'⟩ := hr1.weaken hK1
 clear hr1 hK1 e0 e1 h0 hs hd
 refine wpIn_seq ?_
 refine wpIn_seq ?_
 refine wide_reg (X := ⟨Tryz.prog, w, F, 26⟩) (K := fun E' => E'.has (⟨[(14, .pv (.b false)), (2, .box 2 0)], [(2, 27, (cDrum d).map .pv)], []⟩ : Env)) [] rfl hr1' ?_ ?_
 ·refine Ops.v (g_loadA rfl rfl rfl rfl rfl ag_27 sz_27 rfl rfl) rfl ?_
  refine Ops.v (g_call rfl rfl rfl ca_104 rfl (c_104 _ _ eb)) rfl ?_
  refine Ops.v (g_not rfl rfl rfl rfl) rfl ?_
  refine Ops.v (g_move rfl rfl rfl rfl) rfl ?_
  refine Ops.on rfl rfl rfl ?_
  refine Ops.v (g_move rfl rfl rfl rfl) rfl ?_
  refine Ops.on rfl rfl rfl ?_
  refine Ops.v (g_not rfl rfl rfl rfl) rfl ?_
  refine Ops.v (g_pickF rfl rfl rfl rfl rfl) rfl ?_
  refine Ops.nil ?_
  exact has_mk ⟨rfl, rfl, trivial⟩ ⟨rfl, trivial⟩ trivial rfl
 rintro a2 w2 g2 F2 E2 hr2 hK2 _
 obtain ⟨g2', hr2'⟩ := hr2.weaken hK2
 clear hr2 hK2 hr1'
 have x14 := rel_val hr2' (t := 14) rfl
 refine wpIn_cond_false (by simp [Act.eval, Array.getD_eq_getD_getElem?, x14]) ?_
 refine wpIn_skip ?_
 show Code.wpIn Fence.wide 0 Tryz.prog (.seq _ _) _ _ _
 refine wpIn_seq ?_
 refine wide_reg (X := ⟨Tryz.prog, w, F, 26⟩) (K := fun E' => E'.has (⟨[(2, .box 2 0), (6, .box 6 0)], [(2, 27, (cDrum d).map .pv), (6, 111, [.row 600])], [(600, ⟨115, 8, []⟩)]⟩ : Env)) [] rfl hr2' ?_ ?_
 ·refine Ops.b (g_alloc rfl rfl rfl zr111) rfl rfl ?_
  refine Ops.conv (Conv.nilcell 6 0 600 115 8 rfl rfl rfl) ?_
  refine Ops.nil ?_
  exact has_mk ⟨rfl, rfl, trivial⟩ ⟨rfl, rfl, trivial⟩ ⟨rfl, trivial⟩ rfl
 rintro a3 w3 g3 F3 E3 hr3 hK3 _
 obtain ⟨g3', hr3'⟩ := hr3.weaken hK3
 clear hr3 hK3 hr2' x14
 show Code.wpIn Fence.wide 0 Tryz.prog (.seq _ _) _ _ _
 refine wpIn_seq ?_
 refine wpIn_seq ?_
 refine wide_reg (X := ⟨Tryz.prog, w, F, 26⟩) (K := fun E' => E'.has (⟨[(16, .pv (.fn 171 [] [.ref (cDrum d)])), (6, .box 6 0)], [(6, 111, [.row 600])], [(600, ⟨115, 8, []⟩)]⟩ : Env)) [] rfl hr3' ?_ ?_
 ·refine Ops.v (g_loadA rfl rfl rfl rfl rfl ag_27 sz_27 rfl rfl) rfl ?_
  refine Ops.v (g_call rfl rfl rfl ca_141 rfl (c_141 _)) rfl ?_
  refine Ops.nil ?_
  exact has_mk ⟨rfl, rfl, trivial⟩ ⟨rfl, trivial⟩ ⟨rfl, trivial⟩ rfl
 rintro a4 w4 g4 F4 E4 hr4 hK4 _
 obtain ⟨g4', hr4'⟩ := hr4.weaken hK4
 clear hr4 hK4 hr3'
 obtain ⟨uf, f1, f2⟩ := hr4'.ts 16 _ rfl
 have hsz := hr4'.sz
 have hdf := hr4'.dfr
 refine wpIn_block ?_
 obtain ⟨lb, p, hl0, rfl, hrp⟩ : ∃ lb p, lb = #[p] ∧ uf = .func (.func 171) #[] lb ∧ Rd w4 F4 (.ref (cDrum d)) p := by
  cases f2 with
  | fn _ _ _ fs us hf hl hfr hr =>
   obtain rfl : fs = #[] := Array.eq_empty_of_size_eq_zero (by simpa using hf)
   obtain ⟨p, hp⟩ : ∃ p, us = #[p] := by
    have : us.size = 1 := by simpa using hl
    exact ⟨us[0], by apply Array.ext (by simp [this]); intro i h1 h2; simp at h2; subst h2; rfl⟩
   subst hp
   exact ⟨_, p, rfl, rfl, hr 0 _ p rfl rfl⟩
 refine range_law (α := Filled) (p := 17) (F4 := F4) (lb := lb) (gf := 171) (by simp [Act.eval, Array.getD_eq_getD_getElem?, f1]) ca_171 (I84 w F d a4) ?_ ?_ ?_ ⟨_, hr4'⟩ (fun pre x pre' => app pre [x] = some pre') (fun x W F v => Rd W F (.agg (cFilled x)) v) (M84 w F d a4) ?_ ?_ ?_ (fun xs => xs = l) ?_ ?_
 ·rintro pre W F' ⟨g, hr⟩; exact hr.ok
 ·rintro pre W F' W' F'' ⟨g, hr⟩ h1 h2 h3; exact ⟨g, hr.call h1 h2 h3⟩
 ·rintro pre W F' k o o' ⟨g, hr⟩ ho hk _; exact ⟨g, ho.rel hr (Nat.le_trans hr4'.ext.size hk) o'⟩
 ·rintro pre x a1 W F' k o o' ⟨⟨g, hr⟩, h6⟩ ho hk _; exact ⟨⟨g, ho.rel hr (Nat.le_trans hr4'.ext.size hk) o'⟩, h6⟩
 ·
  intro lo m pre x W F' v k1 k2 o1 o2 hI ht q1 q2
  obtain ⟨g, hr⟩ := hI
  obtain ⟨us, rfl⟩ : ∃ us, v = .agg us := by cases ht with | agg _ us _ _ => exact ⟨us, rfl⟩
  obtain ⟨u1, u2, u3⟩ := agg_one ht rfl
  have u8 : us.size = 8 := u1
  refine wpIn_region_lit ?_
  refine round_val (v := .pointer (some ⟨W.heap.size, 0, none⟩)) (by intro c h; cases h) rfl rfl (run_allocV iz115 W) ?_
  refine round_none (w' := W.alloc (.cells us 115)) (by intro c h; cases h) rfl rfl (by
   rw [← alloc_setRow W _ us 115]
   refine run_storeN (n := 8) sz_115 u8 rfl _ _ 115 (heap_alloc_new W _) (x := .tmp 7) (y := .tmp 17) (ev_same (by simp [hsz])) ?_ u2
   rw [ev_ne (by decide)]
   simp [Act.eval, Array.getD_eq_getD_getElem?, hsz]) ?_
  have hb := hr.box (k := 7) (T := 115) (cs := (cFilled x).map .pv) (us := us) rfl (by simpa using u8) (fun j c u hc hu => by
   rw [List.getElem?_map] at hc
   obtain ⟨c', hc1, rfl⟩ := Option.map_eq_some_iff.1 hc
   exact u3 j c' u hc1 hu)
  have k6 : (({ tmps := a4.tmps.setIfInBounds 17 (.agg us), defers := [] } : Act).put (some 7) (.pointer (some ⟨W.heap.size, 0, none⟩))).tmps[6]? = a4.tmps[6]? := by simp [Act.put]
  have k16 : (({ tmps := a4.tmps.setIfInBounds 17 (.agg us), defers := [] } : Act).put (some 7) (.pointer (some ⟨W.heap.size, 0, none⟩))).tmps[16]? = a4.tmps[16]? := by simp [Act.put]
  refine ⟨F', ⟨⟨_, hb.slots rfl (by simp [Act.put, hsz]) (slots_ok ?_)⟩, k6, k16⟩, q1.alloc _, q2.alloc _⟩
  intro q hq
  simp only [E84, List.mem_cons, List.not_mem_nil, or_false] at hq
  rcases hq with rfl | rfl | rfl
  ·exact ⟨.pointer (some ⟨W.heap.size, 0, none⟩), by simp [Act.put, hsz], W.heap.size, by simp, rfl⟩
  ·obtain ⟨u, z1, z2⟩ := hb.ts 16 _ rfl
   exact ⟨u, k16.trans z1, z2⟩
  ·obtain ⟨u, z1, z2⟩ := hb.ts 6 _ rfl
   exact ⟨u, k6.trans z1, z2⟩
 ·intro lo m pre x pre' a1 W F' k1 k2 o1 o2 hM happ q1 q2
  obtain ⟨⟨g, hr⟩, k6, k16⟩ := hM
  obtain ⟨happ1, rfl⟩ := app_eq happ
  obtain ⟨b6, us6, x1, x2, x3, x4, _⟩ := hr.bs 6 _ _ rfl
  obtain ⟨b7, us7, y1, y2, y3, y4, _⟩ := hr.bs 7 _ _ rfl
  obtain ⟨p6, z1, b6', z2, rfl⟩ := hr.ts 6 _ rfl
  obtain ⟨p7, z3, b7', z4, rfl⟩ := hr.ts 7 _ rfl
  obtain ⟨v0, inner, r1, r2, r3, r4⟩ := hr.rs 600 _ rfl
  rw [x1] at z2; cases z2
  rw [y1] at z4; cases z4
  obtain rfl : us6 = #[v0] := by
   have h1 : us6.size = 1 := x3
   have h2 := x4 0 _ us6[0] rfl (Array.getElem?_eq_getElem (by omega))
   have h3 : us6[0] = v0 := Option.some.inj (h2.symm.trans r1)
   apply Array.ext (by simp [h1])
   intro i h1 h2
   simp at h2
   subst h2
   exact h3
  have y8 : us7.size = 8 := by simpa using y3
  have hs1 := hr.sz
  have e6 : a1.eval (.tmp 6) = .pointer (some ⟨b6, 0, none⟩) := by simp [Act.eval, Array.getD_eq_getD_getElem?, z1]
  have e7 : a1.eval (.tmp 7) = .pointer (some ⟨b7, 0, none⟩) := by simp [Act.eval, Array.getD_eq_getD_getElem?, z3]
  refine wpIn_block ?_
  refine wpIn_region_lit ?_
  refine round_val (v := v0) (w' := W) (by intro c h; cases h) rfl rfl (run_load_cell ag111 x2 e6) ?_
  refine round_val (v := .agg us7) (w' := W) (by intro c h; cases h) rfl rfl (run_load_aggc (x := .tmp 7) ag_115 sz_115 y8 y2 (by rw [ev_ne (by decide)]; exact e7)) ?_
  have hrd7 : Rd W F' (.agg (cFilled x)) (.agg us7) := .agg _ _ (by simpa using y3) (fun j c u hc hu => y4 j (.pv c) u (by rw [List.getElem?_map, hc]; rfl) hu)
  have hr2 := (hr.put (d := 18) (v := .row 600) (u := v0) (by decide) r1).put (d := 19) (v := .pv (.agg (cFilled x))) (u := .agg us7) (by decide) hrd7
  obtain ⟨us, b1, b2, b3⟩ := run_buildSlice (X := ⟨Tryz.prog, w, F, 26⟩) (o := { (default : Oper) with op := .buildSlice 111 1 #[(0, .tmp 19)] }) hr2 (parts := [(0, .tmp 19)]) (es := [cFilled x]) (t := 111) (e := 115) (sz := 8) (n := 1) rfl el_111 ⟨_, zr_115⟩ rfl rfl rfl rfl rfl
  refine round_val (by intro c h; cases h) rfl rfl b1 ?_
  have hr3 := (hr2.alloc (.cells us 115)).put (d := 20) (v := .pv .junk) (u := .slice (some ⟨W.heap.size, 0, none⟩) 1 1) (by decide) (Rd.junk _)
  obtain ⟨v0', inner', s1, s2, s3, s4⟩ := hr3.rs 600 _ rfl
  obtain rfl : v0 = v0' := Option.some.inj (r1.symm.trans s1)
  have hone : ∀ u ∈ us.toList, u.oneCell' = true := fun u hu => by
   obtain ⟨j, hj⟩ := List.getElem?_of_mem hu
   have hjl : j < 8 := by have := (List.getElem?_eq_some_iff.1 hj).1; simp at this; omega
   have hjc : j < (cFilled x).length := hjl
   exact (rd_one (b2.2.2 0 (cFilled x) j (cFilled x)[j] u rfl (List.getElem?_eq_getElem hjc) (by simpa using hj)) (List.all_eq_true.1 (show (cFilled x).all PV.one = true from rfl) _ (List.getElem_mem hjc))).1
  obtain ⟨v', w', t1, t2, t3, t4⟩ := run_append_any (P := Tryz.prog) (ty := 111) ex111 s2 (A := some ⟨W.heap.size, 0, none⟩) (m := 1) (cap := 1) (news := us.toList) (by simpa using b3) hone
   (fun _ => ⟨⟨W.heap.size, 0, none⟩, rfl, fun j u hj => by
    rw [addr_block, cell_of_row _ _ j us 115 (0, 0) (heap_alloc_new W _)]
    simpa using hj⟩) (by simpa using happ1) hr3.ext.size
  refine round_val (v := v') (w' := w') (by intro c h; cases h) rfl rfl ?_ ?_
  ·have e18 : ((((a1.put (some 18) v0).put (some 19) (.agg us7)).put (some 20) (.slice (some ⟨W.heap.size, 0, none⟩) 1 1))).eval (.tmp 18) = v0 := by
    rw [ev_ne (by decide), ev_ne (by decide)]; exact ev_same (by omega)
   have e20 : ((((a1.put (some 18) v0).put (some 19) (.agg us7)).put (some 20) (.slice (some ⟨W.heap.size, 0, none⟩) 1 1))).eval (.tmp 20) = .slice (some ⟨W.heap.size, 0, none⟩) 1 1 := ev_same (by simp [Act.put]; omega)
   simp only [execOp, resolve, invoke, builtin, Sem.run_bind, Sem.run_pure, Result.andThen_ok, List.map_toArray, List.map_cons, List.map_nil, e18, e20, t1]
  have hr4 := (hr3.setrow (R' := ⟨115, 8, (pre ++ [x]).map cFilled⟩) (inner' := inner' ++ us.toList) rfl s1 (turns_grown (X := ⟨Tryz.prog, w, F, 26⟩) hr3 s1 t3) (by simpa using t2)
   (by rw [List.map_append]; exact flat_app s3 ((Turns.alloc hr2.ext (.cells us 115)).flat b2)) t4).put (d := 21) (v := .row 600) (u := v') (by decide) (show (if (600 : Nat) = 600 then some v' else g.rw 600) = some v' from if_pos rfl)
  have own_ne : ∀ k o, Odd (W.alloc (.cells us 115)) F' k o → v0.ownBlock ≠ some k := by
   intro k o hk e
   rcases s2.2 with ⟨rfl, _⟩ | ⟨q, cap, cur, rfl, _, hh, _⟩
   ·simp [Value.ownBlock] at e
   ·simp only [Value.ownBlock, Option.some.injEq] at e
    subst e
    exact hk.ne hh rfl
  have hb6 : w'.heap[b6]? = some (.cells #[v0] 111 (0, 0)) := by
   have hlt : b6 < W.heap.size := (Array.getElem?_eq_some_iff.1 x2).1
   rw [t3.block b6 (by rw [World.size_alloc]; omega) (fun e => hr.rb 600 6 v0 b6 r1 e.symm x1), heap_alloc_old _ _ hlt]
   exact x2
  have hv' : v'.cells = #[v'] ∧ v'.oneCell' = true := by
   rcases t2.2 with ⟨rfl, _⟩ | ⟨_, _, _, rfl, _⟩ <;> exact ⟨rfl, rfl⟩
  refine round_none (w' := w'.setRow b6 #[v']) (by intro c h; cases h) rfl rfl (run_store1 (x := .tmp 6) (y := .tmp 21) sz111 w' b6 v0 111 hb6 (by rw [ev_ne (by decide), ev_ne (by decide), ev_ne (by decide), ev_ne (by decide)]; exact e6) (ev_same (by simp [Act.put]; omega)) rfl hv'.1 hv'.2) ?_
  obtain ⟨tu1, tu2⟩ := setRow_turns (w0 := w) (F := F') (cs := #[v']) hb6 (hr.bx_lt x1).2.1 (hr.bx_lt x1).2.2 (hr.bx_m x1)
  have hr5 := hr4.setbox (k := 6) (b := b6) (cs' := [.row 600]) (us' := #[v']) rfl x1 tu1 tu2 rfl (fun j c u hc hu => by
   match j with
   | 0 => cases hc; cases hu; exact (show (if (600 : Nat) = 600 then some v' else g.rw 600) = some v' from if_pos rfl)
   | j + 1 => cases hc)
  obtain ⟨g5, hr6⟩ := hr5.weaken (E' := E84 d (pre ++ [x])) (has_mk ⟨rfl, rfl, trivial⟩ ⟨rfl, trivial⟩ ⟨rfl, trivial⟩ rfl)
  have o1' := (q1.alloc (.cells us 115))
  have o2' := (q2.alloc (.cells us 115))
  have o1'' := o1'.grown t3 (own_ne _ _ o1')
  have o2'' := o2'.grown t3 (own_ne _ _ o2')
  refine ⟨rfl, F', ⟨g5, hr6.slots hdf hsz (slots_ok ?_)⟩, o1''.setRow _ (o1''.ne hb6), o2''.setRow _ (o2''.ne hb6)⟩
  intro q hq
  simp only [E84, List.mem_cons, List.not_mem_nil, or_false] at hq
  rcases hq with rfl | rfl
  ·obtain ⟨u, c1, c2⟩ := hr6.ts 16 _ rfl
   rw [put_ne (by decide), put_ne (by decide), put_ne (by decide), put_ne (by decide), k16] at c1
   exact ⟨u, c1, c2⟩
  ·obtain ⟨u, c1, c2⟩ := hr6.ts 6 _ rfl
   rw [put_ne (by decide), put_ne (by decide), put_ne (by decide), put_ne (by decide), k6] at c1
   exact ⟨u, c1, c2⟩
 ·intro lo m J hJI hst hY W F' h0
  subst hl0
  refine CallsIn.mono (it_171 n d lo p J ?_ hst ?_ el m W F' h0) ?_
  ·intro pre W F' hj
   obtain ⟨g, hr⟩ := hJI _ _ _ hj
   refine ⟨hr.ok, ?_⟩
   obtain ⟨u, z1, z2⟩ := hr.ts 16 _ rfl
   rw [f1] at z1
   cases z1
   cases z2 with
   | fn _ _ _ fs us hf hl hfr hr => exact hr 0 _ p rfl rfl
  ·intro pre x pre' W F' v hj ha hrd
   exact hY pre x pre' W F' v hj ha hrd
  ·rintro e W' ⟨hv, F'', hj⟩
   exact ⟨hv, l, F'', rfl, hj⟩
 ·rintro D xs W F' rfl ⟨g, hr⟩ q1 hD
  obtain ⟨b6, us6, x1, x2, x3, x4, _⟩ := hr.bs 6 _ _ rfl
  obtain ⟨p6, z1, b6', z2, rfl⟩ := hr.ts 6 _ rfl
  obtain ⟨v0, inner, r1, r2, r3, r4⟩ := hr.rs 600 _ rfl
  rw [x1] at z2; cases z2
  obtain rfl : us6 = #[v0] := by
   have h1 : us6.size = 1 := x3
   have h2 := x4 0 _ us6[0] rfl (Array.getElem?_eq_getElem (by omega))
   have h3 : us6[0] = v0 := Option.some.inj (h2.symm.trans r1)
   apply Array.ext (by simp [h1])
   intro i h1 h2
   simp at h2
   subst h2
   exact h3
  have hrD := q1.rel hr (Nat.le_trans hr4'.ext.size hD) (.deferred none)
  obtain ⟨A, cap, hv0⟩ := row_slice r2
  have hn : (xs.map cFilled).length = xs.length := List.length_map _
  simp only [hn] at hv0
  show Code.wpIn Fence.wide 0 Tryz.prog (.seq _ _) _ _ _
  rw [hdf]
  have e6 : ({ tmps := a4.tmps, defers := [{ target := .collected D, args := #[] }] } : Act).eval (.tmp 6) = .pointer (some ⟨b6, 0, none⟩) := by simp [Act.eval, Array.getD_eq_getD_getElem?, z1]
  refine wpIn_seq ?_
  refine wpIn_seq ?_
  refine wpIn_region_lit ?_
  refine wide_val (v := v0) (w' := W) rfl rfl (run_load_cell ag111 x2 e6) ?_
  refine wide_val (v := .int .i64 ((xs.length : Nat) : Int)) (w' := W) rfl rfl ?_ ?_
  ·have e22 := ev_same (a := ({ tmps := a4.tmps, defers := [{ target := .collected D, args := #[] }] } : Act)) (d := 22) (v := v0) (by simp [hsz])
   rw [hv0] at e22 ⊢
   simp [execOp, resolve, invoke, builtin, e22, Builtin.len_, run_underlying ul_111, goInt]
  refine wide_val (v := .bool (decide (((xs.length : Nat) : Int) = 0))) (w' := W) rfl rfl ?_ ?_
  ·have e23 := ev_same (a := ({ tmps := a4.tmps, defers := [{ target := .collected D, args := #[] }] } : Act).put (some 22) v0) (d := 23) (v := .int .i64 ((xs.length : Nat) : Int)) (by simp [Act.put, hsz])
   simp only [execOp, e23, show ∀ a : Act, a.eval (.const (.int .i64 0)) = .int .i64 0 from fun _ => rfl]
   rw [Sem.run_bind, noGuard, run_eqI]
   rfl
  have e24 : ((((({ tmps := a4.tmps, defers := [{ target := .collected D, args := #[] }] } : Act).put (some 22) v0).put (some 23) (.int .i64 ((xs.length : Nat) : Int))).put (some 24) (.bool (decide (((xs.length : Nat) : Int) = 0))))).eval (.tmp 24) = .bool (decide (((xs.length : Nat) : Int) = 0)) := ev_same (by simp [Act.put, hsz])
  rcases Nat.eq_zero_or_pos xs.length with h0 | h0
  ·have hx : xs = [] := List.eq_nil_of_length_eq_zero h0
   subst hx
   refine wpIn_cond_true (by rw [e24]; rfl) ?_
   refine wpIn_seq ?_
   refine wpIn_region_lit ?_
   refine wide_val (v := .slice none 0 0) (w' := W) rfl rfl rfl ?_
   refine wide_val (v := .int .i64 7) (w' := W) rfl rfl rfl ?_
   refine wpIn_ret ?_
   cases h
   refine ⟨by simp, .inl ⟨D, _, rfl, run_takeDeferred q1.at_, ?_⟩⟩
   refine ⟨.tuple #[.slice none 0 0, .int .i64 7], ?_, F', hrD.ext, hrD.le, hrD.ok, _, rfl, .tup _ _ rfl (fun j c u hc hu => ?_)⟩
   ·simp [results, Tryz.results84, Act.put, hsz]
   ·match j with
    | 0 => cases hc; cases hu; exact .sl [] none 0 0 0 ⟨0, 0, none⟩ (fun _ _ => default) rfl (Nat.le_refl _) (fun h => absurd h (by decide)) (fun i e h => by cases h) (fun i e j c h => by cases h) (fun i e j c h => by cases h) (fun i e j c h => by cases h)
    | 1 => cases hc; cases hu; exact .val _
    | j + 2 => cases hc
  ·have hne : decide (((xs.length : Nat) : Int) = 0) = false := decide_eq_false (by omega)
   refine wpIn_cond_false (by rw [e24, hne]) ?_
   refine wpIn_skip ?_
   show Code.wpIn Fence.wide 0 Tryz.prog (.seq _ _) _ _ _
   refine wpIn_seq ?_
   refine wpIn_region_lit ?_
   refine wide_val (v := v0) (w' := W) rfl rfl (run_load_cell (x := .tmp 6) ag111 x2 (by rw [ev_ne (by decide), ev_ne (by decide), ev_ne (by decide)]; exact e6)) ?_
   refine wide_val (v := v0) (w' := W) rfl rfl ?_ ?_
   ·have e25 : ∀ a : Act, 25 < a.tmps.size → (a.put (some 25) v0).eval (.tmp 25) = v0 := fun a h => ev_same h
    simp only [execOp, e25 _ (show 25 < (((({ tmps := a4.tmps, defers := [{ target := .collected D, args := #[] }] } : Act).put (some 22) v0).put (some 23) (.int .i64 ((xs.length : Nat) : Int))).put (some 24) (.bool (decide (((xs.length : Nat) : Int) = 0)))).tmps.size by simp [Act.put, hsz])]
    rfl
   refine wide_val (v := .int .i64 0) (w' := W) rfl rfl rfl ?_
   refine wpIn_ret ?_
   have hx : xs.isEmpty = false := by cases xs with | nil => cases h0 | cons _ _ => rfl
   rw [hx] at h
   cases h
   have hph : Rel w F 26 g F' ⟨[(6, .row 600)], (E84 d xs).bs, (E84 d xs).rs⟩ { tmps := a4.tmps.setIfInBounds 6 v0, defers := [] } (W.putObj D (.deferred none)) :=
    hrD.slots rfl (by simp [hsz]) (slots_ok (fun q hq => by
     rcases List.mem_singleton.1 hq with rfl
     exact ⟨v0, by simp [hsz], r1⟩))
   obtain ⟨g', F'', hsh⟩ := hph.share (k := 600) rfl
   obtain ⟨u, c1, c2⟩ := hsh.ts 6 _ rfl
   obtain rfl : v0 = u := by simpa [hsz] using c1
   refine ⟨by simp, .inl ⟨D, _, rfl, run_takeDeferred q1.at_, ?_⟩⟩
   refine ⟨.tuple #[v0, .int .i64 0], ?_, F'', hsh.ext, hsh.le, hsh.ok, _, rfl, .tup _ _ rfl (fun j c u hc hu => ?_)⟩
   ·simp [results, Tryz.results84, Act.put, hsz]
   ·match j with
    | 0 => cases hc; cases hu; exact c2
    | 1 => cases hc; cases hu; exact .val _
    | j + 2 => cases hc
end Go.Proofs.YtohmhlkdgfcaeaaGreatDoor
namespace Go.Proofs.YtohmhlkdgfcaeaaGreatDoor
open Go Go.RowKit
set_option maxRecDepth 4000
attribute [local irreducible] W Ops GS GSG
def s_25_l5 (n : Nat) (K1 : Int → (List Span) → Option ((List Span) × Int)) (v101 : ((List Filled) × Int)) (v132 : Int) (v133 : (List Span)) : Nat → Int → Span → Option ((List Span) × Int)
| 0, _, _ => none
| k5 + 1, v153, v154 => bif (decide (v153 < (v101.1.length : Int))) then ( (ix v101.1 v153).bind fun v158 => (s_85 n v158 v132).bind fun v159 => (s_86 n v158 v132).bind fun v160 => (s_25_l5 n K1 v101 v132 v133 k5) (wr (v153 + 1)) (Span.mk (min v154.low v159) (max v154.high v160)) ) else ( (app v133 ([v154])).bind fun v161 => K1 (wr (v132 + 1)) v161 )
def s_25_l1 (n : Nat) (v0 : Drum) (v101 : ((List Filled) × Int)) : Nat → Int → (List Span) → Option ((List Span) × Int)
| 0, _, _ => none
| k1 + 1, v132, v133 => bif (decide (v132 < v0.hours)) then ( (ix v101.1 0).bind fun v148 => (ix v148.strong v132).bind fun v149 => s_25_l5 n (s_25_l1 n v0 v101 k1) v101 v132 v133 n 0 v149 ) else ( some ((v133, 0)) )
def s_25 (n : Nat) (v0 : Drum) : Option ((List Span) × Int) := (s_84 n v0 true).bind fun v101 => bif (!decide (v101.2 = 0)) then ( some (([], v101.2)) ) else ( s_25_l1 n v0 v101 n 0 [] )
theorem c_25 (n : Nat) (v0 : Drum) {r : ((List Span) × Int)} (h : s_25 n v0 = some r) :
  Fun Tryz.prog 25 [.agg (cDrum v0)] (.ret (.tup [.sl (r.1.map cSpan), .val (.int .i64 r.2)])) := by
 unfold s_25 at h
 refine enterW 57 Tryz.func25 q q q ?_
 intro w0 F0
 change W _ _ (Ev [(0, .pv (.agg (cDrum v0)))]) _
 refine W.seq<|W.region<|ob (g_box q q q q q) q q<|va q q q q q<|va q q q q q<|on0<|Sq.n<|W.seq<|W.region<|ov (g_loadA q q q q q ag_27 sz_27 q q) q ?_
 obtain ⟨v101, e101, h⟩ := bind_some h
 refine ov (g_call q q q ca_84 q (c_84 _ _ _ e101)) q<|vm q q q q q<|ov (g_extract q q q q q) q<|ov (g_extract q q q q q) q<|va q q q q q<|va q q q q q<|on0<|Sq.n<|W.seq<|W.seq<|W.region<|vm q q q q q<|ov (g_neq q q q q q) q<|on0<|Sq.n<|W.cond (b := (!decide (v101.2 = 0))) q (fun hc => ?_) (fun hc => ?_)
 ·have h := bif_t h hc
  refine W.seq<|W.region<|vm q q q q q<|va q q q q q<|va q q q q q<|on0<|Sq.n<|W.conv (Conv.nilsl 2 q)<|W.ret<|Sq.r ?_
  obtain rfl := Option.some.inj h
  exact Fin.r q (.cons (.tmp _ _ q) (.cons (.tmp _ _ q) .nil)) q
 ·have h := bif_f h hc
  refine W.skip<|Sq.n<|W.seq<|W.region<|va q q q q q<|on0<|Sq.n<|W.seq<|W.seq<|W.region<|ov (g_fld q q q q fl_27_2) q<|ov (g_load1 q q q q q q ag_3) q<|vm q q q q q<|on0<|Sq.n<|W.block<|W.conv (Conv.nilrow 6 54 57 2 q q)<|W.loop (σ := Nat × Int × (List Span)) (fun s => (⟨[(4, .pv (.sl (List.map cFilled v101.1))), (6, .row 54), (20, .pv (.i v0.hours)), (21, .pv (.i s.2.1))], [], [(54, ⟨57, 2, List.map cSpan s.2.2⟩)]⟩ : Env)) (fun s => s_25_l1 n v0 v101 s.1 s.2.1 s.2.2 = some r) (fun s => s.1) (n, 0, []) h (has_mk ⟨q, q, q, q, trivial⟩ trivial ⟨q, trivial⟩ q) ?_
  rintro ⟨k1, v132, v133⟩ h
  change s_25_l1 n v0 v101 k1 v132 v133 = some r at h
  rcases k1 with _ | k1
  ·rw [s_25_l1] at h
   cases h
  ·rw [s_25_l1] at h
   change W _ _ (⟨[(4, .pv (.sl (List.map cFilled v101.1))), (6, .row 54), (20, .pv (.i v0.hours)), (21, .pv (.i v132))], [], [(54, ⟨57, 2, List.map cSpan v133⟩)]⟩ : Env) _
   refine W.seq<|W.region<|ov (g_lss q q q q q) q<|on0<|Sq.n<|W.seq<|W.cond (b := (decide (v132 < v0.hours))) q (fun hc => ?_) (fun hc => ?_)
   ·have h := bif_t h hc
    refine W.skip<|Sq.n<|W.seq<|W.block<|W.seq<|W.region<|vm q q q q q<|va q q q q q<|on0<|Sq.n<|W.seq<|W.region<|vm q q q q q ?_
    obtain ⟨v148, e148, h⟩ := bind_some h
    refine ov (g_idxI (l := v101.1) (enc := cFilled) e148 q q q q q el_111 q) q<|ov (g_fldR q q q q fl_115_2 q) q<|ov (g_loadR1 q q q q q ag_30) q<|vm q q q q q ?_
    obtain ⟨v149, e149, h⟩ := bind_some h
    refine ov (g_idxI (l := v148.strong) (enc := cSpan) e149 q q q q q el_30 q) q<|ov (g_loadRA q q q q ag_57 sz_57 q q) q<|ob (g_alloc q q q zr_57) q q<|Ops.step q (s_storeB q q q q q q sz_57 q q)<|on0<|Sq.n<|W.seq<|W.seq<|W.region<|vm q q q q q<|ov (g_lenM (l := v101.1) (enc := cFilled) q ul_111 q q q) q<|vm q q q q q<|on0<|Sq.n<|W.block<|W.loop (σ := Nat × Int × Span) (fun s => (⟨[(4, .pv (.sl (List.map cFilled v101.1))), (6, .row 54), (7, .pv (.i v132)), (8, .box 8 0), (20, .pv (.i v0.hours)), (21, .pv (.i v132)), (31, .pv (.sl (List.map cFilled v101.1))), (32, .pv (.val (.int .i64 (v101.1.length : Int)))), (33, .pv (.i s.2.1))], [(8, 57, [.pv (.i s.2.2.low), .pv (.i s.2.2.high)])], [(54, ⟨57, 2, List.map cSpan v133⟩)]⟩ : Env)) (fun s => s_25_l5 n (s_25_l1 n v0 v101 k1) v101 v132 v133 s.1 s.2.1 s.2.2 = some r) (fun s => s.1) (n, 0, v149) h (has_mk ⟨q, q, q, q, q, q, q, q, q, trivial⟩ ⟨q, trivial⟩ ⟨q, trivial⟩ q) ?_
    rintro ⟨k5, v153, v154⟩ h
    change s_25_l5 n (s_25_l1 n v0 v101 k1) v101 v132 v133 k5 v153 v154 = some r at h
    rcases k5 with _ | k5
    ·rw [s_25_l5] at h
     cases h
    ·rw [s_25_l5] at h
     change W _ _ (⟨[(4, .pv (.sl (List.map cFilled v101.1))), (6, .row 54), (7, .pv (.i v132)), (8, .box 8 0), (20, .pv (.i v0.hours)), (21, .pv (.i v132)), (31, .pv (.sl (List.map cFilled v101.1))), (32, .pv (.val (.int .i64 (v101.1.length : Int)))), (33, .pv (.i v153))], [(8, 57, [.pv (.i v154.low), .pv (.i v154.high)])], [(54, ⟨57, 2, List.map cSpan v133⟩)]⟩ : Env) _
     refine W.seq<|W.region<|ov (g_lss q q q q q) q<|on0<|Sq.n<|W.seq<|W.cond (b := (decide (v153 < (v101.1.length : Int)))) q (fun hc => ?_) (fun hc => ?_)
     ·have h := bif_t h hc
      refine W.skip<|Sq.n<|W.seq<|W.block<|W.seq<|W.region ?_
      obtain ⟨v158, e158, h⟩ := bind_some h
      refine ov (g_idxI (l := v101.1) (enc := cFilled) e158 q q q q q el_111 q) q<|ov (g_loadRA q q q q ag_115 sz_115 q q) q<|ob (g_alloc q q q zr_115) q q<|Ops.step q (s_storeB q q q q q q sz_115 q q)<|on0<|Sq.n ?_
      obtain ⟨v159, e159, h⟩ := bind_some h
      obtain ⟨v160, e160, h⟩ := bind_some h
      exact W.draw (m := 12) Checked.mixed (Pre.v (GSG.of q (g_fld q q q q fl_57_0)) ((Pre.v (GSG.of q (g_load1 q q q q q q ag_3)) ((Pre.v (GSG.of q (g_loadA q q q q q ag_115 sz_115 q q)) ((Pre.v (GSG.of q (g_move q q q q)) ((Pre.v (GSG.of q (g_call q q q ca_85 q (c_85 _ _ _ e159))) ((Pre.v (GSG.of q (g_min q q q q q)) ((Pre.v (GSG.of q (g_fld q q q q fl_57_1)) ((Pre.v (GSG.of q (g_load1 q q q q q q ag_3)) ((Pre.v (GSG.of q (g_loadA q q q q q ag_115 sz_115 q q)) ((Pre.v (GSG.of q (g_move q q q q)) ((Pre.v (GSG.of q (g_call q q q ca_86 q (c_86 _ _ _ e160))) ((Pre.v (GSG.of q (g_max q q q q q)) (Pre.nil _)))))))))))))))))))))))) (by kernel_rfl)<|ov (g_build (cs := (cSpan (Span.mk (min v154.low v159) (max v154.high v160)))) q q q zr_57 st_57 q q) q<|Ops.step q (s_storeB q q q q q q sz_57 q q)<|on0<|Bl.n<|Sq.n<|W.region<|ov (g_add q q q q q) q<|vm q q q q q<|on0<|Sq.n<|⟨(k5, wr (v153 + 1), (Span.mk (min v154.low v159) (max v154.high v160))), h, Nat.lt_succ_self _, has_mk ⟨q, q, q, q, q, q, q, q, q, trivial⟩ ⟨q, trivial⟩ ⟨q, trivial⟩ q⟩
     ·have h := bif_f h hc
      refine W.exit<|Sq.e<|Sq.e<|Bl.e<|Sq.n<|W.region<|vm q q q q q<|ov (g_loadA q q q q q ag_57 sz_57 q q) q<|Ops.r (g_buildSlice (cs := [.val (.int .i64 v154.low), .val (.int .i64 v154.high)]) (es := List.map cSpan [v154]) q q q el_30 ⟨_, zr_57⟩ q q q q q q) q q ?_
      obtain ⟨v161, e161, h⟩ := bind_some h
      exact Ops.step q (s_appendR (enc := cSpan) e161 q q q q q q q q ex_30 (fun _ => q))<|va q q q q q<|on0<|Bl.n<|Sq.n<|W.region<|ov (g_add q q q q q) q<|vm q q q q q<|on0<|Sq.n<|⟨(k1, wr (v132 + 1), v161), h, Nat.lt_succ_self _, has_mk ⟨q, q, q, q, trivial⟩ trivial ⟨q, trivial⟩ q⟩
   ·have h := bif_f h hc
    refine W.exit<|Sq.e<|Sq.e<|Bl.e<|Sq.n<|W.seq<|W.region<|vm q q q q q<|va q q q q q<|va q q q q q<|on0<|Sq.n<|W.share (k := 54) q<|W.ret ?_
    obtain rfl := Option.some.inj h
    exact Fin.r q (.cons (.tmp _ _ q) (.cons (.tmp _ _ q) .nil)) q
def s_26_l1 (n : Nat) (v0 : Drum) (v1 : Int) (v102 : ((List Filled) × Int)) : Nat → Int → Option (Int × Int)
| 0, _ => none
| k1 + 1, v104 => bif (decide (v104 < v0.hours)) then ( (s_88 n v102.1 v104 v1).bind fun v106 => bif v106 then ( some ((v104, 0)) ) else ( (s_26_l1 n v0 v1 v102 k1) (wr (v104 + 1)) ) ) else ( some ((0, 5)) )
def s_26 (n : Nat) (v0 : Drum) (v1 : Int) : Option (Int × Int) := (s_87 n v1 0 50).bind fun v101 => (s_84 n v0 v101).bind fun v102 => bif (!decide (v102.2 = 0)) then ( some ((0, v102.2)) ) else ( s_26_l1 n v0 v1 v102 n 0 )
theorem c_26 (n : Nat) (v0 : Drum) (v1 : Int) {r : (Int × Int)} (h : s_26 n v0 v1 = some r) :
  Fun Tryz.prog 26 [.agg (cDrum v0), .val (.int .i64 v1)] (.ret (.tup [.val (.int .i64 r.1), .val (.int .i64 r.2)])) := by
 unfold s_26 at h
 refine enterW 30 Tryz.func26 q q q ?_
 intro w0 F0
 change W _ _ (Ev [(0, .pv (.agg (cDrum v0))), (1, .pv (.i v1))]) _
 refine W.seq<|W.region<|ob (g_box q q q q q) q q<|va q q q q q<|va q q q q q<|on0<|Sq.n<|W.seq ?_
 obtain ⟨v101, e101, h⟩ := bind_some h
 obtain ⟨v102, e102, h⟩ := bind_some h
 refine W.draw (m := 8) Checked.mixed (Pre.v (GSG.of q (g_loadA q q q q q ag_27 sz_27 q q)) ((Pre.v (GSG.of q (g_move q q q q)) ((Pre.v (GSG.of q (g_call q q q ca_87 q (c_87 _ _ _ _ e101))) ((Pre.v (GSG.of q (g_call q q q ca_84 q (c_84 _ _ _ e102))) ((Pre.v (GSG.of q (g_move q q q q)) ((Pre.v (GSG.of q (g_extract q q q q q)) ((Pre.v (GSG.of q (g_extract q q q q q)) ((Pre.v (GSG.of q (g_assign q q q q)) (Pre.nil _)))))))))))))))) (by kernel_rfl)<|va q q q q q<|on0<|Sq.n<|W.seq<|W.seq<|W.region<|vm q q q q q<|ov (g_neq q q q q q) q<|on0<|Sq.n<|W.cond (b := (!decide (v102.2 = 0))) q (fun hc => ?_) (fun hc => ?_)
 ·have h := bif_t h hc
  refine W.seq<|W.region<|vm q q q q q<|va q q q q q<|va q q q q q<|on0<|Sq.n<|W.ret<|Sq.r ?_
  obtain rfl := Option.some.inj h
  exact Fin.r q (.cons (.tmp _ _ q) (.cons (.tmp _ _ q) .nil)) q
 ·have h := bif_f h hc
  refine W.skip<|Sq.n<|W.seq<|W.seq<|W.region<|ov (g_fld q q q q fl_27_2) q<|ov (g_load1 q q q q q q ag_3) q<|vm q q q q q<|on0<|Sq.n<|W.block<|W.loop (σ := Nat × Int) (fun s => (Ev [(1, .pv (.i v1)), (6, .pv (.sl (List.map cFilled v102.1))), (20, .pv (.i v0.hours)), (21, .pv (.i s.2))])) (fun s => s_26_l1 n v0 v1 v102 s.1 s.2 = some r) (fun s => s.1) (n, 0) h (has_mk ⟨q, q, q, q, trivial⟩ trivial trivial q) ?_
  rintro ⟨k1, v104⟩ h
  change s_26_l1 n v0 v1 v102 k1 v104 = some r at h
  rcases k1 with _ | k1
  ·rw [s_26_l1] at h
   cases h
  ·rw [s_26_l1] at h
   change W _ _ (Ev [(1, .pv (.i v1)), (6, .pv (.sl (List.map cFilled v102.1))), (20, .pv (.i v0.hours)), (21, .pv (.i v104))]) _
   refine W.seq<|W.region<|ov (g_lss q q q q q) q<|on0<|Sq.n<|W.seq<|W.cond (b := (decide (v104 < v0.hours))) q (fun hc => ?_) (fun hc => ?_)
   ·have h := bif_t h hc
    refine W.skip<|Sq.n<|W.seq<|W.block<|W.seq<|W.region<|vm q q q q q<|va q q q q q<|on0<|Sq.n<|W.seq<|W.region<|vm q q q q q<|vm q q q q q<|vm q q q q q ?_
    obtain ⟨v106, e106, h⟩ := bind_some h
    refine ov (g_call q q q ca_88 q (c_88 _ _ _ _ e106)) q<|on0<|Sq.n<|W.cond (b := v106) q (fun hc => ?_) (fun hc => ?_)
    ·have h := bif_t h hc
     refine W.seq<|W.region<|vm q q q q q<|va q q q q q<|va q q q q q<|on0<|Sq.n<|W.ret<|Bl.r<|Sq.r<|Sq.r<|Bl.r<|Sq.r ?_
     obtain rfl := Option.some.inj h
     exact Fin.r q (.cons (.tmp _ _ q) (.cons (.tmp _ _ q) .nil)) q
    ·have h := bif_f h hc
     exact W.skip<|Bl.n<|Sq.n<|W.region<|ov (g_add q q q q q) q<|vm q q q q q<|on0<|Sq.n<|⟨(k1, wr (v104 + 1)), h, Nat.lt_succ_self _, has_mk ⟨q, q, q, q, trivial⟩ trivial trivial q⟩
   ·have h := bif_f h hc
    refine W.exit<|Sq.e<|Sq.e<|Bl.e<|Sq.n<|W.seq<|W.region<|va q q q q q<|va q q q q q<|on0<|Sq.n<|W.ret ?_
    obtain rfl := Option.some.inj h
    exact Fin.r q (.cons (.tmp _ _ q) (.cons (.tmp _ _ q) .nil)) q
def s_91 (n : Nat) (v0 : Drum) (v1 : Int) (f2 : ((List Filled) → Batch → Option (Int))) : Option (Int × Int) := (s_87 n v1 0 (wr ((v0.batches.length : Int) - 1))).bind fun v101 => (s_84 n v0 v101).bind fun v102 => bif (!decide (v102.2 = 0)) then ( some ((0, v102.2)) ) else ( (ix v0.batches v1).bind fun v103 => (f2 v102.1 v103).bind fun v104 => bif (decide (v104 < 0)) then (
 some ((0, 5)) ) else ( some ((v104, 0)) ) )
theorem c_91 (n : Nat) (v0 : Drum) (v1 : Int) (f2 : ((List Filled) → Batch → Option (Int))) {fidf2 : Nat} {firstf2 capsf2 : List PV} (hcf2 : Callable Tryz.prog fidf2) (hgf2 : ∀ x0 x1 y, f2 x0 x1 = some y → Fun Tryz.prog fidf2 (firstf2 ++ [.sl (x0.map cFilled), .agg (cBatch x1)] ++ capsf2) (.ret (.val (.int .i64 y)))) {r : (Int × Int)} (h : s_91 n v0 v1 f2 = some r) :
  Fun Tryz.prog 91 [.agg (cDrum v0), .val (.int .i64 v1), .fn fidf2 firstf2 capsf2] (.ret (.tup [.val (.int .i64 r.1), .val (.int .i64 r.2)])) := by
 unfold s_91 at h
 refine enterW 36 Tryz.func91 q q q ?_
 intro w0 F0
 change W _ _ (Ev [(0, .pv (.agg (cDrum v0))), (1, .pv (.i v1)), (2, .pv (.fn fidf2 firstf2 capsf2))]) _
 refine W.seq<|W.region<|ob (g_box q q q q q) q q<|va q q q q q<|va q q q q q<|on0<|Sq.n<|W.seq ?_
 obtain ⟨v101, e101, h⟩ := bind_some h
 obtain ⟨v102, e102, h⟩ := bind_some h
 refine W.draw (m := 12) Checked.mixed (Pre.v (GSG.of q (g_loadA q q q q q ag_27 sz_27 q q)) ((Pre.v (GSG.of q (g_move q q q q)) ((Pre.v (GSG.of q (g_fld q q q q fl_27_5)) ((Pre.v (GSG.of q (g_load1 q q q q q q ag_25)) ((Pre.v (GSG.of q (g_lenM (l := v0.batches) (enc := cBatch) q ul_25 q q q)) ((Pre.v (GSG.of q (g_sub q q q q q)) ((Pre.v (GSG.of q (g_call q q q ca_87 q (c_87 _ _ _ _ e101))) ((Pre.v (GSG.of q (g_call q q q ca_84 q (c_84 _ _ _ e102))) ((Pre.v (GSG.of q (g_move q q q q)) ((Pre.v (GSG.of q (g_extract q q q q q)) ((Pre.v (GSG.of q (g_extract q q q q q)) ((Pre.v (GSG.of q (g_assign q q q q)) (Pre.nil _)))))))))))))))))))))))) (by kernel_rfl)<|va q q q q q<|on0<|Sq.n<|W.seq<|W.seq<|W.region<|vm q q q q q<|ov (g_neq q q q q q) q<|on0<|Sq.n<|W.cond (b := (!decide (v102.2 = 0))) q (fun hc => ?_) (fun hc => ?_)
 ·have h := bif_t h hc
  refine W.seq<|W.region<|vm q q q q q<|va q q q q q<|va q q q q q<|on0<|Sq.n<|W.ret<|Sq.r ?_
  obtain rfl := Option.some.inj h
  exact Fin.r q (.cons (.tmp _ _ q) (.cons (.tmp _ _ q) .nil)) q
 ·have h := bif_f h hc
  refine W.skip<|Sq.n<|W.seq<|W.region<|vm q q q q q<|vm q q q q q<|ov (g_fld q q q q fl_27_5) q<|ov (g_load1 q q q q q q ag_25) q<|vm q q q q q ?_
  obtain ⟨v103, e103, h⟩ := bind_some h
  refine ov (g_idxI (l := v0.batches) (enc := cBatch) e103 q q q q q el_25 q) q<|ov (g_loadRA q q q q ag_67 sz_67 q q) q ?_
  obtain ⟨v104, e104, h⟩ := bind_some h
  refine ov (g_callv q q q q hcf2 q (hgf2 _ _ _ e104)) q<|va q q q q q<|on0<|Sq.n<|W.seq<|W.seq<|W.region<|vm q q q q q<|ov (g_lss q q q q q) q<|on0<|Sq.n<|W.cond (b := (decide (v104 < 0))) q (fun hc => ?_) (fun hc => ?_)
  ·have h := bif_t h hc
   refine W.seq<|W.region<|va q q q q q<|va q q q q q<|on0<|Sq.n<|W.ret<|Sq.r ?_
   obtain rfl := Option.some.inj h
   exact Fin.r q (.cons (.tmp _ _ q) (.cons (.tmp _ _ q) .nil)) q
  ·have h := bif_f h hc
   refine W.skip<|Sq.n<|W.seq<|W.region<|vm q q q q q<|va q q q q q<|va q q q q q<|on0<|Sq.n<|W.ret ?_
   obtain rfl := Option.some.inj h
   exact Fin.r q (.cons (.tmp _ _ q) (.cons (.tmp _ _ q) .nil)) q
def s_35_j9 (K3 : Int → (List Int) → Option (Int × Int)) (v1 : Int) (v117 : Int) (v118 : (List Int)) (v136 : Bool) : Option (Int × Int) := bif v136 then ( some ((v117, 0)) ) else ( K3 (wr (v117 + 1)) (sts v118 v1 v117) )
def s_35_l3 (n : Nat) (v0 : Drum) (v1 : Int) (v2 : Int) : Nat → Int → (List Int) → Option (Int × Int)
| 0, _, _ => none
| k3 + 1, v117, v118 => bif (decide (v117 < 101)) then ( (ix v118 v1).bind fun v128 => (s_84 n (Drum.mk v0.acids v0.known v0.hours (sts v118 v1 v117) v0.strips v0.batches) true).bind fun v129 => (s_98 n (Drum.mk v0.acids v0.known v0.hours (sts v118 v1 v117) v0.strips v0.batches) v129.1).bind fun v130 => (s_100 n v130).bind fun v131 => (s_99 n v130 v131).bind fun v132 => bif v132 then (
 (s_100 n v130).bind fun v133 => (s_102 n v130 v133).bind fun v134 => (s_101 n v2 v134).bind fun v135 => s_35_j9 (s_35_l3 n v0 v1 v2 k3) v1 v117 v118 v135 ) else ( s_35_j9 (s_35_l3 n v0 v1 v2 k3) v1 v117 v118 false ) ) else ( some ((0, 5)) )
def s_35_j2 (n : Nat) (v0 : Drum) (v1 : Int) (v2 : Int) (v105 : Int) : Option (Int × Int) := bif (!decide (v105 = 0)) then ( some ((0, v105)) ) else ( (s_95 n v0.strips (fun z0 => s_96 n z0 v1)).bind fun v106 => bif v106 then ( some ((0, 7)) ) else ( (s_97 n v0.adds).bind fun v107 => s_35_l3 n v0 v1 v2 n 0 v107 ) )
def s_35 (n : Nat) (v0 : Drum) (v1 : Int) (v2 : Int) : Option (Int × Int) := (s_87 n v1 0 (wr (v0.hours - 1))).bind fun v101 => bif v101 then ( (s_87 n v2 (wr (v1 + 1)) v0.hours).bind fun v102 => (s_84 n v0 v102).bind fun v103 => s_35_j2 n v0 v1 v2 v103.2 ) else ( (s_84 n v0 false).bind fun v104 => s_35_j2 n v0 v1 v2 v104.2 )
theorem c_35 (n : Nat) (v0 : Drum) (v1 : Int) (v2 : Int) {r : (Int × Int)} (h : s_35 n v0 v1 v2 = some r) :
  Fun Tryz.prog 35 [.agg (cDrum v0), .val (.int .i64 v1), .val (.int .i64 v2)] (.ret (.tup [.val (.int .i64 r.1), .val (.int .i64 r.2)])) := by
 unfold s_35 at h
 refine enterW 75 Tryz.func35 q q q ?_
 intro w0 F0
 change W _ _ (Ev [(0, .pv (.agg (cDrum v0))), (1, .pv (.i v1)), (2, .pv (.i v2))]) _
 refine W.seq<|W.region<|ob (g_box q q q q q) q q<|ob (g_box q q q q q) q q<|va q q q q q<|va q q q q q<|on0<|Sq.n<|W.seqJ (σ := Int) (fun s => (⟨[(2, .pv (.i v2)), (3, .box 3 0), (4, .box 4 0), (9, .pv (.i s))], [(3, 27, [.pv (.sl (List.map cAcid v0.acids)), .pv (.i v0.known), .pv (.i v0.hours), .pv (.sl (List.map eI v0.adds)), .pv (.sl (List.map cStrip v0.strips)), .pv (.sl (List.map cBatch v0.batches))]), (4, 3, [.pv (.i v1)])], []⟩ : Env)) (fun s => s_35_j2 n v0 v1 v2 s = some r) ?_ ?_
 ·obtain ⟨v101, e101, h⟩ := bind_some h
  rcases Bool.eq_false_or_eq_true (v101) with hb1 | hb1
  ·have h := bif_t h hb1
   obtain ⟨v102, e102, h⟩ := bind_some h
   obtain ⟨v103, e103, h⟩ := bind_some h
   refine W.draw (m := 19) Checked.mixed (Pre.v (GSG.of q (g_loadA q q q q q ag_27 sz_27 q q)) ((Pre.v (GSG.of q (g_load1 q q q q q q ag_3)) ((Pre.v (GSG.of q (g_fld q q q q fl_27_2)) ((Pre.v (GSG.of q (g_load1 q q q q q q ag_3)) ((Pre.v (GSG.of q (g_sub q q q q q)) ((Pre.v (GSG.of q (g_call q q q ca_87 q (c_87 _ _ _ _ e101))) ((Pre.v (GSG.as (GSG.of q (g_move q q q q)) (congrArg (fun b => TV.pv (PV.b b)) hb1)) ((Pre.v (GSG.on q q q (g_move q q q q)) ((Pre.v (GSG.on q q q (g_load1 q q q q q q ag_3)) ((Pre.v (GSG.on q q q (g_add q q q q q)) ((Pre.v (GSG.on q q q (g_fld q q q q fl_27_2)) ((Pre.v (GSG.on q q q (g_load1 q q q q q q ag_3)) ((Pre.v (GSG.on q q q (g_call q q q ca_87 q (c_87 _ _ _ _ e102))) ((Pre.v (GSG.of q (g_pickT q q q q q)) ((Pre.v (GSG.of q (g_call q q q ca_84 q (c_84 _ _ _ e103))) ((Pre.v (GSG.of q (g_move q q q q)) ((Pre.v (GSG.of q (g_extract q q q q q)) ((Pre.v (GSG.of q (g_extract q q q q q)) ((Pre.v (GSG.of q (g_assign q q q q)) (Pre.nil _)))))))))))))))))))))))))))))))))))))) (by kernel_rfl)<|va q q q q q<|on0<|Sq.n<|⟨v103.2, h, has_mk ⟨q, q, q, q, trivial⟩ ⟨q, q, trivial⟩ trivial q⟩
  ·have h := bif_f h hb1
   obtain ⟨v104, e104, h⟩ := bind_some h
   refine W.draw (m := 19) Checked.mixed (Pre.v (GSG.of q (g_loadA q q q q q ag_27 sz_27 q q)) ((Pre.v (GSG.of q (g_load1 q q q q q q ag_3)) ((Pre.v (GSG.of q (g_fld q q q q fl_27_2)) ((Pre.v (GSG.of q (g_load1 q q q q q q ag_3)) ((Pre.v (GSG.of q (g_sub q q q q q)) ((Pre.v (GSG.of q (g_call q q q ca_87 q (c_87 _ _ _ _ e101))) ((Pre.v (GSG.as (GSG.of q (g_move q q q q)) (congrArg (fun b => TV.pv (PV.b b)) hb1)) ((Pre.v (GSG.off2 q q q q q q) ((Pre.v (GSG.off2 q q q q q q) ((Pre.v (GSG.off2 q q q q q q) ((Pre.v (GSG.off2 q q q q q q) ((Pre.v (GSG.off2 q q q q q q) ((Pre.v (GSG.off2 q q q q q q) ((Pre.v (GSG.of q (g_pickF q q q q q)) ((Pre.v (GSG.of q (g_call q q q ca_84 q (c_84 _ _ _ e104))) ((Pre.v (GSG.of q (g_move q q q q)) ((Pre.v (GSG.of q (g_extract q q q q q)) ((Pre.v (GSG.of q (g_extract q q q q q)) ((Pre.v (GSG.of q (g_assign q q q q)) (Pre.nil _)))))))))))))))))))))))))))))))))))))) (by kernel_rfl)<|va q q q q q<|on0<|Sq.n<|⟨v104.2, h, has_mk ⟨q, q, q, q, trivial⟩ ⟨q, q, trivial⟩ trivial q⟩
 ·rintro v105 h
  change s_35_j2 n v0 v1 v2 v105 = some r at h
  unfold s_35_j2 at h
  change W _ _ (⟨[(2, .pv (.i v2)), (3, .box 3 0), (4, .box 4 0), (9, .pv (.i v105))], [(3, 27, [.pv (.sl (List.map cAcid v0.acids)), .pv (.i v0.known), .pv (.i v0.hours), .pv (.sl (List.map eI v0.adds)), .pv (.sl (List.map cStrip v0.strips)), .pv (.sl (List.map cBatch v0.batches))]), (4, 3, [.pv (.i v1)])], []⟩ : Env) _
  refine W.seq<|W.seq<|W.region<|vm q q q q q<|ov (g_neq q q q q q) q<|on0<|Sq.n<|W.cond (b := (!decide (v105 = 0))) q (fun hc => ?_) (fun hc => ?_)
  ·have h := bif_t h hc
   refine W.seq<|W.region<|vm q q q q q<|va q q q q q<|va q q q q q<|on0<|Sq.n<|W.ret<|Sq.r ?_
   obtain rfl := Option.some.inj h
   exact Fin.r q (.cons (.tmp _ _ q) (.cons (.tmp _ _ q) .nil)) q
  ·have h := bif_f h hc
   refine W.skip<|Sq.n<|W.seq<|W.seq<|W.region<|ov (g_fld q q q q fl_27_4) q<|ov (g_load1 q q q q q q ag_24) q<|Ops.conv (Conv.freeze (k := 4) (cs := [.val (.int .i64 v1)]) q)<|ov (g_makeFunc q q q q q) q ?_
   obtain ⟨v106, e106, h⟩ := bind_some h
   refine ov (g_call q q q ca_95 q (c_95 _ _ _ ca_96 (fun _ y e => c_96 _ _ _ e) e106)) q<|on0<|Sq.n<|W.cond (b := v106) q (fun hc => ?_) (fun hc => ?_)
   ·have h := bif_t h hc
    refine W.seq<|W.region<|va q q q q q<|va q q q q q<|on0<|Sq.n<|W.ret<|Sq.r ?_
    obtain rfl := Option.some.inj h
    exact Fin.r q (.cons (.tmp _ _ q) (.cons (.tmp _ _ q) .nil)) q
   ·have h := bif_f h hc
    refine W.skip<|Sq.n<|W.seq<|W.region<|ov (g_loadA q q q q q ag_27 sz_27 q q) q<|ob (g_alloc q q q zr_27) q q<|Ops.step q (s_storeB q q q q q q sz_27 q q)<|on0<|Sq.n<|W.seq<|W.region<|ov (g_fld q q q q fl_27_3) q<|ov (g_load1 q q q q q q ag_23) q ?_
    obtain ⟨v107, e107, h⟩ := bind_some h
    refine Ops.r (g_callRow2 q q q ca_97 q (c_97 _ _ e107)) q q<|ov (g_fld q q q q fl_27_3) q<|Ops.step q (s_storeB q q q q q q sz_23 q q)<|on0<|Sq.n<|W.seq<|W.seq<|W.region<|vm q q q q q<|on0<|Sq.n<|W.block<|W.loop (σ := Nat × Int × (List Int)) (fun s => (⟨[(2, .pv (.i v2)), (4, .pv (.ref [.val (.int .i64 v1)])), (10, .box 10 0), (45, .pv (.i s.2.1))], [(10, 27, [.pv (.sl (List.map cAcid v0.acids)), .pv (.i v0.known), .pv (.i v0.hours), .row 43, .pv (.sl (List.map cStrip v0.strips)), .pv (.sl (List.map cBatch v0.batches))])], [(43, ⟨3, 1, List.map eI s.2.2⟩)]⟩ : Env)) (fun s => s_35_l3 n v0 v1 v2 s.1 s.2.1 s.2.2 = some r) (fun s => s.1) (n, 0, v107) h (has_mk ⟨q, q, q, q, trivial⟩ ⟨q, trivial⟩ ⟨q, trivial⟩ q) ?_
    rintro ⟨k3, v117, v118⟩ h
    change s_35_l3 n v0 v1 v2 k3 v117 v118 = some r at h
    rcases k3 with _ | k3
    ·rw [s_35_l3] at h
     cases h
    ·rw [s_35_l3] at h
     change W _ _ (⟨[(2, .pv (.i v2)), (4, .pv (.ref [.val (.int .i64 v1)])), (10, .box 10 0), (45, .pv (.i v117))], [(10, 27, [.pv (.sl (List.map cAcid v0.acids)), .pv (.i v0.known), .pv (.i v0.hours), .row 43, .pv (.sl (List.map cStrip v0.strips)), .pv (.sl (List.map cBatch v0.batches))])], [(43, ⟨3, 1, List.map eI v118⟩)]⟩ : Env) _
     refine W.seq<|W.region<|ov (g_lss q q q q q) q<|on0<|Sq.n<|W.seq<|W.cond (b := (decide (v117 < 101))) q (fun hc => ?_) (fun hc => ?_)
     ·have h := bif_t h hc
      refine W.skip<|Sq.n<|W.seq<|W.block<|W.seq<|W.region<|vm q q q q q<|va q q q q q<|on0<|Sq.n<|W.seq<|W.region<|ov (g_fld q q q q fl_27_3) q<|ov (g_load1 q q q q q q ag_23) q<|ov (g_loadR1 q q q q q ag_3) q<|vm q q q q q ?_
      obtain ⟨v128, e128, h⟩ := bind_some h
      refine ov (g_idxPI (l := v118) (enc := eI) e128 q q q q q q el_23) q<|Ops.step q (s_storePI (sz := 1) (l := v118) (enc := eI) v117 e128 q q q q q q q sz_3 q q)<|on0<|Sq.n<|W.lend [(2, .val (.int .i64 v2)), (4, .ref [.val (.int .i64 v1)]), (10, .ref [.sl (List.map cAcid v0.acids), .val (.int .i64 v0.known), .val (.int .i64 v0.hours), .sl (List.map eI (sts v118 v1 v117)), .sl (List.map cStrip v0.strips), .sl (List.map cBatch v0.batches)]), (11, .val (.int .i64 v117)), (45, .val (.int .i64 v117))] [4, 10] (Lent.has (E' := (⟨[(2, .pv (.i v2)), (4, .pv (.ref [.val (.int .i64 v1)])), (10, .box 10 0), (11, .pv (.i v117)), (45, .pv (.i v117))], [(10, 27, [.pv (.sl (List.map cAcid v0.acids)), .pv (.i v0.known), .pv (.i v0.hours), .row 43, .pv (.sl (List.map cStrip v0.strips)), .pv (.sl (List.map cBatch v0.batches))])], [(43, ⟨3, 1, List.map eI (sts v118 v1 v117)⟩)]⟩ : Env)) (has_mk ⟨q, q, q, q, q, trivial⟩ ⟨q, trivial⟩ ⟨q, trivial⟩ q) (Lent.share (k := 43) q (Lent.freeze (k := 10) (cs := [.sl (List.map cAcid v0.acids), .val (.int .i64 v0.known), .val (.int .i64 v0.hours), .sl (List.map eI (sts v118 v1 v117)), .sl (List.map cStrip v0.strips), .sl (List.map cBatch v0.batches)]) q (Lent.has (E' := (Ev [(2, .pv (.i v2)), (4, .pv (.ref [.val (.int .i64 v1)])), (10, .pv (.ref [.sl (List.map cAcid v0.acids), .val (.int .i64 v0.known), .val (.int .i64 v0.hours), .sl (List.map eI (sts v118 v1 v117)), .sl (List.map cStrip v0.strips), .sl (List.map cBatch v0.batches)])), (11, .pv (.i v117)), (45, .pv (.i v117))])) (has_mk ⟨q, q, q, q, q, trivial⟩ trivial trivial q) (Lent.nil (l := [(2, .val (.int .i64 v2)), (4, .ref [.val (.int .i64 v1)]), (10, .ref [.sl (List.map cAcid v0.acids), .val (.int .i64 v0.known), .val (.int .i64 v0.hours), .sl (List.map eI (sts v118 v1 v117)), .sl (List.map cStrip v0.strips), .sl (List.map cBatch v0.batches)]), (11, .val (.int .i64 v117)), (45, .val (.int .i64 v117))])))))) ?_
      intro w0' F0' vals
      refine W.conv (Conv.unpin 2 q)<|W.conv (Conv.unpin 11 q)<|W.conv (Conv.unpin 45 q)<|W.seq<|W.region<|ov (g_loadRApin q q q q ag_27 sz_27 q q) q ?_
      obtain ⟨v129, e129, h⟩ := bind_some h
      refine ov (g_call q q q ca_84 q (c_84 _ _ _ e129)) q<|vm q q q q q<|ov (g_extract q q q q q) q<|ov (g_extract q q q q q) q<|va q q q q q<|va q q q q q<|on0<|Sq.n<|W.seq<|W.region<|ov (g_loadRApin q q q q ag_27 sz_27 q q) q<|vm q q q q q ?_
      obtain ⟨v130, e130, h⟩ := bind_some h
      refine ov (g_call q q q ca_98 q (c_98 _ _ _ e130)) q<|ob (g_alloc q q q zr_129) q q<|Ops.step q (s_storeB q q q q q q sz_129 q q)<|on0<|Sq.n<|W.seqJ (σ := Bool) (fun s => (Ev [(2, .pv (.i v2)), (4, .pv (.pin (vals 4) (.ref [.val (.int .i64 v1)]))), (10, .pv (.pin (vals 10) (.ref [.sl (List.map cAcid v0.acids), .val (.int .i64 v0.known), .val (.int .i64 v0.hours), .sl (List.map eI (sts v118 v1 v117)), .sl (List.map cStrip v0.strips), .sl (List.map cBatch v0.batches)]))), (11, .pv (.i v117)), (45, .pv (.i v117)), (72, .pv (.b s))])) (fun s => s_35_j9 (s_35_l3 n v0 v1 v2 k3) v1 v117 v118 s = some r) ?_ ?_
      ·obtain ⟨v131, e131, h⟩ := bind_some h
       obtain ⟨v132, e132, h⟩ := bind_some h
       rcases Bool.eq_false_or_eq_true (v132) with hb8 | hb8
       ·have h := bif_t h hb8
        obtain ⟨v133, e133, h⟩ := bind_some h
        obtain ⟨v134, e134, h⟩ := bind_some h
        refine W.draw (m := 10) Checked.mixed (Pre.v (GSG.of q (g_loadA q q q q q ag_129 sz_129 q q)) ((Pre.v (GSG.of q (g_loadA q q q q q ag_129 sz_129 q q)) ((Pre.v (GSG.of q (g_call q q q ca_100 q (c_100 _ _ e131))) ((Pre.v (GSG.of q (g_call q q q ca_99 q (c_99 _ _ _ e132))) ((Pre.v (GSG.as (GSG.of q (g_move q q q q)) (congrArg (fun b => TV.pv (PV.b b)) hb8)) ((Pre.v (GSG.on q q q (g_move q q q q)) ((Pre.v (GSG.on q q q (g_loadA q q q q q ag_129 sz_129 q q)) ((Pre.v (GSG.on q q q (g_loadA q q q q q ag_129 sz_129 q q)) ((Pre.v (GSG.on q q q (g_call q q q ca_100 q (c_100 _ _ e133))) ((Pre.v (GSG.on q q q (g_call q q q ca_102 q (c_102 _ _ _ e134))) (Pre.nil _)))))))))))))))))))) (by kernel_rfl)<|on q q q ?_
        obtain ⟨v135, e135, h⟩ := bind_some h
        refine ov (g_call q q q ca_101 q (c_101 _ _ _ e135)) q<|vt q q q q q q<|on0<|Sq.n<|⟨v135, h, has_mk ⟨q, q, q, q, q, q, trivial⟩ trivial trivial q⟩
       ·have h := bif_f h hb8
        refine W.draw (m := 10) Checked.mixed (Pre.v (GSG.of q (g_loadA q q q q q ag_129 sz_129 q q)) ((Pre.v (GSG.of q (g_loadA q q q q q ag_129 sz_129 q q)) ((Pre.v (GSG.of q (g_call q q q ca_100 q (c_100 _ _ e131))) ((Pre.v (GSG.of q (g_call q q q ca_99 q (c_99 _ _ _ e132))) ((Pre.v (GSG.as (GSG.of q (g_move q q q q)) (congrArg (fun b => TV.pv (PV.b b)) hb8)) ((Pre.v (GSG.off2 q q q q q q) ((Pre.v (GSG.off2 q q q q q q) ((Pre.v (GSG.off2 q q q q q q) ((Pre.v (GSG.off2 q q q q q q) ((Pre.v (GSG.off2 q q q q q q) (Pre.nil _)))))))))))))))))))) (by kernel_rfl)<|o2 q q q q q q<|vf q q q q q q<|on0<|Sq.n<|⟨false, h, has_mk ⟨q, q, q, q, q, q, trivial⟩ trivial trivial q⟩
      ·rintro v136 h
       change s_35_j9 (s_35_l3 n v0 v1 v2 k3) v1 v117 v118 v136 = some r at h
       unfold s_35_j9 at h
       change W _ _ (Ev [(2, .pv (.i v2)), (4, .pv (.pin (vals 4) (.ref [.val (.int .i64 v1)]))), (10, .pv (.pin (vals 10) (.ref [.sl (List.map cAcid v0.acids), .val (.int .i64 v0.known), .val (.int .i64 v0.hours), .sl (List.map eI (sts v118 v1 v117)), .sl (List.map cStrip v0.strips), .sl (List.map cBatch v0.batches)]))), (11, .pv (.i v117)), (45, .pv (.i v117)), (72, .pv (.b v136))]) _
       refine W.cond (b := v136) q (fun hc => ?_) (fun hc => ?_)
       ·have h := bif_t h hc
        refine W.seq<|W.region<|vm q q q q q<|va q q q q q<|va q q q q q<|on0<|Sq.n<|W.ret<|bk_mk [(6, .int .i64 v117), (7, .int .i64 0)] ⟨q, q, trivial⟩ ⟨⟨_, q⟩, ⟨_, q⟩, trivial⟩<|Bl.r<|Sq.r<|Sq.r<|Bl.r<|Sq.r ?_
        obtain rfl := Option.some.inj h
        exact Fin.r q (.cons (.tmp _ _ q) (.cons (.tmp _ _ q) .nil)) q
       ·have h := bif_f h hc
        exact W.skip<|bk_mk [(2, .int .i64 v2), (45, .int .i64 v117)] ⟨q, q, trivial⟩ ⟨⟨_, q⟩, ⟨_, q⟩, trivial⟩<|Bl.n<|Sq.n<|W.region<|ov (g_add q q q q q) q<|vm q q q q q<|on0<|Sq.n<|⟨(k3, wr (v117 + 1), sts v118 v1 v117), h, Nat.lt_succ_self _, has_mk ⟨q, q, q, q, trivial⟩ ⟨q, trivial⟩ ⟨q, trivial⟩ q⟩
     ·have h := bif_f h hc
      refine W.exit<|Sq.e<|Sq.e<|Bl.e<|Sq.n<|W.seq<|W.region<|va q q q q q<|va q q q q q<|on0<|Sq.n<|W.ret ?_
      obtain rfl := Option.some.inj h
      exact Fin.r q (.cons (.tmp _ _ q) (.cons (.tmp _ _ q) .nil)) q
def s_48_l1 (n : Nat) (v0 : Drum) (v1 : Int) (v102 : ((List Filled) × Int)) : Nat → Int → (List Bounds) → Option ((List Bounds) × Int)
| 0, _, _ => none
| k1 + 1, v111, v112 => bif (decide (v111 < (v0.batches.length : Int))) then ( (ix v0.batches v111).bind fun v116 => (s_120 n v102.1 v116 v1).bind fun v117 => (app v112 ([v117])).bind fun v118 => (s_48_l1 n v0 v1 v102 k1) (wr (v111 + 1)) v118 ) else ( some ((v112, 0)) )
def s_48 (n : Nat) (v0 : Drum) (v1 : Int) : Option ((List Bounds) × Int) := (s_87 n v1 0 v0.hours).bind fun v101 => (s_84 n v0 v101).bind fun v102 => bif (!decide (v102.2 = 0)) then ( some (([], v102.2)) ) else ( s_48_l1 n v0 v1 v102 n 0 [] )
theorem c_48 (n : Nat) (v0 : Drum) (v1 : Int) {r : ((List Bounds) × Int)} (h : s_48 n v0 v1 = some r) :
  Fun Tryz.prog 48 [.agg (cDrum v0), .val (.int .i64 v1)] (.ret (.tup [.sl (r.1.map cBounds), .val (.int .i64 r.2)])) := by
 unfold s_48 at h
 refine enterW 41 Tryz.func48 q q q ?_
 intro w0 F0
 change W _ _ (Ev [(0, .pv (.agg (cDrum v0))), (1, .pv (.i v1))]) _
 refine W.seq<|W.region<|ob (g_box q q q q q) q q<|va q q q q q<|va q q q q q<|on0<|Sq.n<|W.seq ?_
 obtain ⟨v101, e101, h⟩ := bind_some h
 obtain ⟨v102, e102, h⟩ := bind_some h
 refine W.draw (m := 10) Checked.mixed (Pre.v (GSG.of q (g_loadA q q q q q ag_27 sz_27 q q)) ((Pre.v (GSG.of q (g_move q q q q)) ((Pre.v (GSG.of q (g_fld q q q q fl_27_2)) ((Pre.v (GSG.of q (g_load1 q q q q q q ag_3)) ((Pre.v (GSG.of q (g_call q q q ca_87 q (c_87 _ _ _ _ e101))) ((Pre.v (GSG.of q (g_call q q q ca_84 q (c_84 _ _ _ e102))) ((Pre.v (GSG.of q (g_move q q q q)) ((Pre.v (GSG.of q (g_extract q q q q q)) ((Pre.v (GSG.of q (g_extract q q q q q)) ((Pre.v (GSG.of q (g_assign q q q q)) (Pre.nil _)))))))))))))))))))) (by kernel_rfl)<|va q q q q q<|on0<|Sq.n<|W.seq<|W.seq<|W.region<|vm q q q q q<|ov (g_neq q q q q q) q<|on0<|Sq.n<|W.cond (b := (!decide (v102.2 = 0))) q (fun hc => ?_) (fun hc => ?_)
 ·have h := bif_t h hc
  refine W.seq<|W.region<|vm q q q q q<|va q q q q q<|va q q q q q<|on0<|Sq.n<|W.conv (Conv.nilsl 4 q)<|W.ret<|Sq.r ?_
  obtain rfl := Option.some.inj h
  exact Fin.r q (.cons (.tmp _ _ q) (.cons (.tmp _ _ q) .nil)) q
 ·have h := bif_f h hc
  refine W.skip<|Sq.n<|W.seq<|W.region<|va q q q q q<|on0<|Sq.n<|W.seq<|W.seq<|W.region<|ov (g_fld q q q q fl_27_5) q<|ov (g_load1 q q q q q q ag_25) q<|ov (g_lenM (l := v0.batches) (enc := cBatch) q ul_25 q q q) q<|vm q q q q q<|on0<|Sq.n<|W.block<|W.conv (Conv.nilrow 8 38 71 4 q q)<|W.loop (σ := Nat × Int × (List Bounds)) (fun s => (⟨[(1, .pv (.i v1)), (6, .pv (.sl (List.map cFilled v102.1))), (8, .row 38), (25, .pv (.sl (List.map cBatch v0.batches))), (26, .pv (.val (.int .i64 (v0.batches.length : Int)))), (27, .pv (.i s.2.1))], [], [(38, ⟨71, 4, List.map cBounds s.2.2⟩)]⟩ : Env)) (fun s => s_48_l1 n v0 v1 v102 s.1 s.2.1 s.2.2 = some r) (fun s => s.1) (n, 0, []) h (has_mk ⟨q, q, q, q, q, q, trivial⟩ trivial ⟨q, trivial⟩ q) ?_
  rintro ⟨k1, v111, v112⟩ h
  change s_48_l1 n v0 v1 v102 k1 v111 v112 = some r at h
  rcases k1 with _ | k1
  ·rw [s_48_l1] at h
   cases h
  ·rw [s_48_l1] at h
   change W _ _ (⟨[(1, .pv (.i v1)), (6, .pv (.sl (List.map cFilled v102.1))), (8, .row 38), (25, .pv (.sl (List.map cBatch v0.batches))), (26, .pv (.val (.int .i64 (v0.batches.length : Int)))), (27, .pv (.i v111))], [], [(38, ⟨71, 4, List.map cBounds v112⟩)]⟩ : Env) _
   refine W.seq<|W.region<|ov (g_lss q q q q q) q<|on0<|Sq.n<|W.seq<|W.cond (b := (decide (v111 < (v0.batches.length : Int)))) q (fun hc => ?_) (fun hc => ?_)
   ·have h := bif_t h hc
    refine W.skip<|Sq.n<|W.seq<|W.block<|W.seq<|W.region ?_
    obtain ⟨v116, e116, h⟩ := bind_some h
    refine ov (g_idxI (l := v0.batches) (enc := cBatch) e116 q q q q q el_25 q) q<|ov (g_loadRA q q q q ag_67 sz_67 q q) q<|ob (g_alloc q q q zr_67) q q<|Ops.step q (s_storeB q q q q q q sz_67 q q)<|on0<|Sq.n<|W.seq<|W.region<|vm q q q q q<|ov (g_loadA q q q q q ag_67 sz_67 q q) q<|vm q q q q q ?_
    obtain ⟨v117, e117, h⟩ := bind_some h
    refine ov (g_call q q q ca_120 q (c_120 _ _ _ _ e117)) q<|ob (g_alloc q q q zr_71) q q<|Ops.step q (s_storeB q q q q q q sz_71 q q)<|on0<|Sq.n<|W.region<|vm q q q q q<|ov (g_loadA q q q q q ag_71 sz_71 q q) q<|Ops.r (g_buildSlice (cs := [.val (.int .i64 v117.rough.low), .val (.int .i64 v117.rough.high), .val (.int .i64 v117.thick.low), .val (.int .i64 v117.thick.high)]) (es := List.map cBounds [v117]) q q q el_63 ⟨_, zr_71⟩ q q q q q q) q q ?_
    obtain ⟨v118, e118, h⟩ := bind_some h
    exact Ops.step q (s_appendR (enc := cBounds) e118 q q q q q q q q ex_63 (fun _ => q))<|va q q q q q<|on0<|Bl.n<|Sq.n<|W.region<|ov (g_add q q q q q) q<|vm q q q q q<|on0<|Sq.n<|⟨(k1, wr (v111 + 1), v118), h, Nat.lt_succ_self _, has_mk ⟨q, q, q, q, q, q, trivial⟩ trivial ⟨q, trivial⟩ q⟩
   ·have h := bif_f h hc
    refine W.exit<|Sq.e<|Sq.e<|Bl.e<|Sq.n<|W.seq<|W.region<|vm q q q q q<|va q q q q q<|va q q q q q<|on0<|Sq.n<|W.share (k := 38) q<|W.ret ?_
    obtain rfl := Option.some.inj h
    exact Fin.r q (.cons (.tmp _ _ q) (.cons (.tmp _ _ q) .nil)) q
def s_52_l17 (n : Nat) (K1 : Int → (List (List Int)) → Option ((List Int) × Int)) (K14 : Int → Option ((List Int) × Int)) (v102 : Windows) (v203 : Int) (v204 : (List (List Int))) (v269 : Int) (v285 : Int) (v286 : (List Int)) : Nat → Int → Option ((List Int) × Int)
| 0, _ => none
| k17 + 1, v291 => bif (decide (v291 < (v286.length : Int))) then ( (ix v286 v291).bind fun v296 => (shl .i64 1 v285).bind fun v297 => (shl .i64 1 v296).bind fun v298 => (s_99 n v102 (bits .or .i64 v297 v298)).bind fun v299 => bif v299 then ( K1 (wr (v203 + 1)) v204 ) else ( (s_52_l17 n K1 K14 v102 v203 v204 v269 v285 v286 k17) (wr (v291 + 1)) ) ) else ( K14 (wr (v269 + 1)) )
def s_52_l14 (n : Nat) (K1 : Int → (List (List Int)) → Option ((List Int) × Int)) (v102 : Windows) (v203 : Int) (v204 : (List (List Int))) (v253 : (List Int)) : Nat → Int → Option ((List Int) × Int)
| 0, _ => none
| k14 + 1, v269 => bif (decide (v269 < (v253.length : Int))) then ( (ix v253 v269).bind fun v285 => (subl v253 0 v269).bind fun v286 => s_52_l17 n K1 (s_52_l14 n K1 v102 v203 v204 v253 k14) v102 v203 v204 v269 v285 v286 n 0 ) else ( (app v204 ([v253])).bind fun v300 => K1 (wr (v203 + 1)) v300 )
def s_52_l1 (n : Nat) (v102 : Windows) (v104 : Int) : Nat → Int → (List (List Int)) → Option ((List Int) × Int)
| 0, _, _ => none
| k1 + 1, v203, v204 => bif (decide (v203 < (wr (v104 + 1)))) then ( (s_131 n v203).bind fun v253 => s_52_l14 n (s_52_l1 n v102 v104 k1) v102 v203 v204 v253 n 0 ) else ( (s_129 n v204 (fun z0 z1 => s_132 n z0 z1)).bind fun v301 => some ((v301.1, 0)) )
def s_52 (n : Nat) (v0 : Drum) : Option ((List Int) × Int) := (s_84 n v0 true).bind fun v101 => bif (!decide (v101.2 = 0)) then ( some (([], v101.2)) ) else ( (s_98 n v0 v101.1).bind fun v102 => (s_124 n v102).bind fun v103 => bif (!v103) then ( some (([], 5)) ) else ( (s_100 n v102).bind fun v104 => s_52_l1 n v102 v104 n 0 [] ) )
theorem c_52 (n : Nat) (v0 : Drum) {r : ((List Int) × Int)} (h : s_52 n v0 = some r) :
  Fun Tryz.prog 52 [.agg (cDrum v0)] (.ret (.tup [.sl (r.1.map eI), .val (.int .i64 r.2)])) := by
 unfold s_52 at h
 refine enterW 73 Tryz.func52 q q q ?_
 intro w0 F0
 change W _ _ (Ev [(0, .pv (.agg (cDrum v0)))]) _
 refine W.seq<|W.region<|ob (g_box q q q q q) q q<|va q q q q q<|va q q q q q<|on0<|Sq.n<|W.scope<|W.seq<|W.region<|ov (g_loadA q q q q q ag_27 sz_27 q q) q ?_
 obtain ⟨v101, e101, h⟩ := bind_some h
 refine ov (g_call q q q ca_84 q (c_84 _ _ _ e101)) q<|vm q q q q q<|ov (g_extract q q q q q) q<|ov (g_extract q q q q q) q<|va q q q q q<|va q q q q q<|on0<|Sq.n<|W.seq<|W.seq<|W.region<|vm q q q q q<|ov (g_neq q q q q q) q<|on0<|Sq.n<|W.cond (b := (!decide (v101.2 = 0))) q (fun hc => ?_) (fun hc => ?_)
 ·have h := bif_t h hc
  refine W.seq<|W.region<|vm q q q q q<|va q q q q q<|va q q q q q<|on0<|Sq.n<|W.conv (Conv.nilsl 2 q)<|W.ret<|Sq.r<|Ng.r ?_
  obtain rfl := Option.some.inj h
  exact Fin.r q (.cons (.tmp _ _ q) (.cons (.tmp _ _ q) .nil)) q
 ·have h := bif_f h hc
  refine W.skip<|Sq.n<|W.seq<|W.region<|ov (g_loadA q q q q q ag_27 sz_27 q q) q<|vm q q q q q ?_
  obtain ⟨v102, e102, h⟩ := bind_some h
  refine ov (g_call q q q ca_98 q (c_98 _ _ _ e102)) q<|ob (g_alloc q q q zr_129) q q<|Ops.step q (s_storeB q q q q q q sz_129 q q)<|on0<|Sq.n<|W.seq<|W.seq<|W.region<|ov (g_loadA q q q q q ag_129 sz_129 q q) q ?_
  obtain ⟨v103, e103, h⟩ := bind_some h
  refine ov (g_call q q q ca_124 q (c_124 _ _ e103)) q<|ov (g_not q q q q) q<|on0<|Sq.n<|W.cond (b := (!v103)) q (fun hc => ?_) (fun hc => ?_)
  ·have h := bif_t h hc
   refine W.seq<|W.region<|va q q q q q<|va q q q q q<|on0<|Sq.n<|W.conv (Conv.nilsl 2 q)<|W.ret<|Sq.r<|Ng.r ?_
   obtain rfl := Option.some.inj h
   exact Fin.r q (.cons (.tmp _ _ q) (.cons (.tmp _ _ q) .nil)) q
  ·have h := bif_f h hc
   refine W.skip<|Sq.n<|W.seq<|W.region<|va q q q q q<|on0<|Sq.n<|W.seq<|W.label<|Sq.n<|W.seq<|W.seq<|W.region<|ov (g_loadA q q q q q ag_129 sz_129 q q) q ?_
   obtain ⟨v104, e104, h⟩ := bind_some h
   refine ov (g_call q q q ca_100 q (c_100 _ _ e104)) q<|ov (g_add q q q q q) q<|vm q q q q q<|on0<|Sq.n<|W.block<|W.conv (Conv.nilrow 7 65 23 1 q q)<|W.loop (σ := Nat × Int × (List (List Int))) (fun s => (⟨[(6, .box 6 0), (7, .row 65), (32, .pv (.val (.int .i64 (wr (v104 + 1))))), (33, .pv (.i s.2.1))], [(6, 129, [.pv (.sl (List.map cSpan v102.own)), .pv (.cache (List.map spanP v102.own))])], [(65, ⟨23, 1, List.map (eL eI) s.2.2⟩)]⟩ : Env)) (fun s => s_52_l1 n v102 v104 s.1 s.2.1 s.2.2 = some r) (fun s => s.1) (n, 0, []) h (has_mk ⟨q, q, q, q, trivial⟩ ⟨q, trivial⟩ ⟨q, trivial⟩ q) ?_
   rintro ⟨k1, v203, v204⟩ h
   change s_52_l1 n v102 v104 k1 v203 v204 = some r at h
   rcases k1 with _ | k1
   ·rw [s_52_l1] at h
    cases h
   ·rw [s_52_l1] at h
    change W _ _ (⟨[(6, .box 6 0), (7, .row 65), (32, .pv (.val (.int .i64 (wr (v104 + 1))))), (33, .pv (.i v203))], [(6, 129, [.pv (.sl (List.map cSpan v102.own)), .pv (.cache (List.map spanP v102.own))])], [(65, ⟨23, 1, List.map (eL eI) v204⟩)]⟩ : Env) _
    refine W.seq<|W.region<|ov (g_lss q q q q q) q<|on0<|Sq.n<|W.seq<|W.cond (b := (decide (v203 < (wr (v104 + 1))))) q (fun hc => ?_) (fun hc => ?_)
    ·have h := bif_t h hc
     refine W.skip<|Sq.n<|W.seq<|W.block<|W.seq<|W.region<|vm q q q q q<|va q q q q q<|on0<|Sq.n<|W.seq<|W.region<|vm q q q q q ?_
     obtain ⟨v253, e253, h⟩ := bind_some h
     refine ov (g_call q q q ca_131 q (c_131 _ _ e253)) q<|va q q q q q<|on0<|Sq.n<|W.seq<|W.seq<|W.region<|vm q q q q q<|ov (g_lenM (l := v253) (enc := eI) q ul_23 q q q) q<|vm q q q q q<|on0<|Sq.n<|W.block<|W.loop (σ := Nat × Int) (fun s => (⟨[(6, .box 6 0), (7, .row 65), (9, .pv (.sl (List.map eI v253))), (32, .pv (.val (.int .i64 (wr (v104 + 1))))), (33, .pv (.i v203)), (38, .pv (.sl (List.map eI v253))), (39, .pv (.val (.int .i64 (v253.length : Int)))), (40, .pv (.i s.2))], [(6, 129, [.pv (.sl (List.map cSpan v102.own)), .pv (.cache (List.map spanP v102.own))])], [(65, ⟨23, 1, List.map (eL eI) v204⟩)]⟩ : Env)) (fun s => s_52_l14 n (s_52_l1 n v102 v104 k1) v102 v203 v204 v253 s.1 s.2 = some r) (fun s => s.1) (n, 0) h (has_mk ⟨q, q, q, q, q, q, q, q, trivial⟩ ⟨q, trivial⟩ ⟨q, trivial⟩ q) ?_
     rintro ⟨k14, v269⟩ h
     change s_52_l14 n (s_52_l1 n v102 v104 k1) v102 v203 v204 v253 k14 v269 = some r at h
     rcases k14 with _ | k14
     ·rw [s_52_l14] at h
      cases h
     ·rw [s_52_l14] at h
      change W _ _ (⟨[(6, .box 6 0), (7, .row 65), (9, .pv (.sl (List.map eI v253))), (32, .pv (.val (.int .i64 (wr (v104 + 1))))), (33, .pv (.i v203)), (38, .pv (.sl (List.map eI v253))), (39, .pv (.val (.int .i64 (v253.length : Int)))), (40, .pv (.i v269))], [(6, 129, [.pv (.sl (List.map cSpan v102.own)), .pv (.cache (List.map spanP v102.own))])], [(65, ⟨23, 1, List.map (eL eI) v204⟩)]⟩ : Env) _
      refine W.seq<|W.region<|ov (g_lss q q q q q) q<|on0<|Sq.n<|W.seq<|W.cond (b := (decide (v269 < (v253.length : Int)))) q (fun hc => ?_) (fun hc => ?_)
      ·have h := bif_t h hc
       refine W.skip<|Sq.n<|W.seq<|W.block<|W.seq<|W.region<|vm q q q q q ?_
       obtain ⟨v285, e285, h⟩ := bind_some h
       refine ov (g_idxI (l := v253) (enc := eI) e285 q q q q q el_23 q) q<|ov (g_loadR1 q q q q q ag_3) q<|va q q q q q<|va q q q q q<|on0<|Sq.n<|W.seq<|W.region<|vm q q q q q<|vm q q q q q ?_
       obtain ⟨v286, e286, h⟩ := bind_some h
       refine ov (g_sliceM (enc := eI) e286 q q q q el_23 (fun _ => q) q q) q<|ov (g_lenM (l := v286) (enc := eI) q ul_23 q q q) q<|vm q q q q q<|on0<|Sq.n<|W.block<|W.loop (σ := Nat × Int) (fun s => (⟨[(6, .box 6 0), (7, .row 65), (9, .pv (.sl (List.map eI v253))), (11, .pv (.i v285)), (32, .pv (.val (.int .i64 (wr (v104 + 1))))), (33, .pv (.i v203)), (38, .pv (.sl (List.map eI v253))), (39, .pv (.val (.int .i64 (v253.length : Int)))), (40, .pv (.i v269)), (47, .pv (.sl (List.map eI v286))), (48, .pv (.val (.int .i64 (v286.length : Int)))), (49, .pv (.i s.2))], [(6, 129, [.pv (.sl (List.map cSpan v102.own)), .pv (.cache (List.map spanP v102.own))])], [(65, ⟨23, 1, List.map (eL eI) v204⟩)]⟩ : Env)) (fun s => s_52_l17 n (s_52_l1 n v102 v104 k1) (s_52_l14 n (s_52_l1 n v102 v104 k1) v102 v203 v204 v253 k14) v102 v203 v204 v269 v285 v286 s.1 s.2 = some r) (fun s => s.1) (n, 0) h (has_mk ⟨q, q, q, q, q, q, q, q, q, q, q, q, trivial⟩ ⟨q, trivial⟩ ⟨q, trivial⟩ q) ?_
       rintro ⟨k17, v291⟩ h
       change s_52_l17 n (s_52_l1 n v102 v104 k1) (s_52_l14 n (s_52_l1 n v102 v104 k1) v102 v203 v204 v253 k14) v102 v203 v204 v269 v285 v286 k17 v291 = some r at h
       rcases k17 with _ | k17
       ·rw [s_52_l17] at h
        cases h
       ·rw [s_52_l17] at h
        change W _ _ (⟨[(6, .box 6 0), (7, .row 65), (9, .pv (.sl (List.map eI v253))), (11, .pv (.i v285)), (32, .pv (.val (.int .i64 (wr (v104 + 1))))), (33, .pv (.i v203)), (38, .pv (.sl (List.map eI v253))), (39, .pv (.val (.int .i64 (v253.length : Int)))), (40, .pv (.i v269)), (47, .pv (.sl (List.map eI v286))), (48, .pv (.val (.int .i64 (v286.length : Int)))), (49, .pv (.i v291))], [(6, 129, [.pv (.sl (List.map cSpan v102.own)), .pv (.cache (List.map spanP v102.own))])], [(65, ⟨23, 1, List.map (eL eI) v204⟩)]⟩ : Env) _
        refine W.seq<|W.region<|ov (g_lss q q q q q) q<|on0<|Sq.n<|W.seq<|W.cond (b := (decide (v291 < (v286.length : Int)))) q (fun hc => ?_) (fun hc => ?_)
        ·have h := bif_t h hc
         refine W.skip<|Sq.n<|W.seq<|W.block<|W.seq<|W.region ?_
         obtain ⟨v296, e296, h⟩ := bind_some h
         refine ov (g_idxI (l := v286) (enc := eI) e296 q q q q q el_23 q) q<|ov (g_loadR1 q q q q q ag_3) q<|va q q q q q<|on0<|Sq.n<|W.seq ?_
         obtain ⟨v297, e297, h⟩ := bind_some h
         obtain ⟨v298, e298, h⟩ := bind_some h
         refine W.draw (m := 6) Checked.mixed (Pre.v (GSG.of q (g_loadA q q q q q ag_129 sz_129 q q)) ((Pre.v (GSG.of q (g_move q q q q)) ((Pre.v (GSG.of q (g_shlI e297 q q q q q)) ((Pre.v (GSG.of q (g_move q q q q)) ((Pre.v (GSG.of q (g_shlI e298 q q q q q)) ((Pre.v (GSG.of q (g_or q q q q q)) (Pre.nil _)))))))))))) (by kernel_rfl) ?_
         obtain ⟨v299, e299, h⟩ := bind_some h
         refine ov (g_call q q q ca_99 q (c_99 _ _ _ e299)) q<|on0<|Sq.n<|W.cond (b := v299) q (fun hc => ?_) (fun hc => ?_)
         ·have h := bif_t h hc
          exact W.exit<|Bl.o q<|Sq.e<|Sq.e<|Bl.o q<|Bl.o q<|Sq.e<|Sq.e<|Bl.o q<|Sq.e<|Bl.e<|Sq.n<|W.region<|ov (g_add q q q q q) q<|vm q q q q q<|on0<|Sq.n<|⟨(k1, wr (v203 + 1), v204), h, Nat.lt_succ_self _, has_mk ⟨q, q, q, q, trivial⟩ ⟨q, trivial⟩ ⟨q, trivial⟩ q⟩
         ·have h := bif_f h hc
          exact W.skip<|Bl.n<|Sq.n<|W.region<|ov (g_add q q q q q) q<|vm q q q q q<|on0<|Sq.n<|⟨(k17, wr (v291 + 1)), h, Nat.lt_succ_self _, has_mk ⟨q, q, q, q, q, q, q, q, q, q, q, q, trivial⟩ ⟨q, trivial⟩ ⟨q, trivial⟩ q⟩
        ·have h := bif_f h hc
         exact W.exit<|Sq.e<|Sq.e<|Bl.e<|Bl.n<|Sq.n<|W.region<|ov (g_add q q q q q) q<|vm q q q q q<|on0<|Sq.n<|⟨(k14, wr (v269 + 1)), h, Nat.lt_succ_self _, has_mk ⟨q, q, q, q, q, q, q, q, trivial⟩ ⟨q, trivial⟩ ⟨q, trivial⟩ q⟩
      ·have h := bif_f h hc
       refine W.exit<|Sq.e<|Sq.e<|Bl.e<|Sq.n<|W.region<|vm q q q q q<|vm q q q q q<|Ops.r (g_buildSlice (cs := [.sl (List.map eI v253)]) (es := List.map (eL eI) [v253]) q q q el_151 ⟨_, zr_23⟩ q q q q q q) q q ?_
       obtain ⟨v300, e300, h⟩ := bind_some h
       exact Ops.step q (s_appendR (enc := (eL eI)) e300 q q q q q q q q ex_151 (fun _ => q))<|va q q q q q<|on0<|Bl.n<|Sq.n<|W.region<|ov (g_add q q q q q) q<|vm q q q q q<|on0<|Sq.n<|⟨(k1, wr (v203 + 1), v300), h, Nat.lt_succ_self _, has_mk ⟨q, q, q, q, trivial⟩ ⟨q, trivial⟩ ⟨q, trivial⟩ q⟩
    ·have h := bif_f h hc
     refine W.exit<|Sq.e<|Sq.e<|Bl.e<|Sq.n<|W.seq<|W.region<|vm q q q q q<|Ops.share (k := 65) q ?_
     obtain ⟨v301, e301, h⟩ := bind_some h
     refine ov (g_call q q q ca_129 q (c_129 _ _ _ ca_132 (fun _ _ y e => c_132 _ _ _ e) e301)) q<|vm q q q q q<|ov (g_extract q q q q q) q<|ov (g_extract q q q q q) q<|va q q q q q<|va q q q q q<|on0<|Sq.n<|W.seq<|W.region<|vm q q q q q<|va q q q q q<|va q q q q q<|on0<|Sq.n<|W.ret<|Ng.r ?_
     obtain rfl := Option.some.inj h
     exact Fin.r q (.cons (.tmp _ _ q) (.cons (.tmp _ _ q) .nil)) q
end Go.Proofs.YtohmhlkdgfcaeaaGreatDoor
namespace Go.Proofs.YtohmhlkdgfcaeaaGreatDoor
open Go Go.RowKit
set_option maxRecDepth 4000
attribute [local irreducible] W Ops GS GSG
def s_61_j5 (n : Nat) (K1 : Int → (List (List Int)) → Option ((List Int) × Int)) (v116 : Int) (v117 : (List (List Int))) (v125 : Bool) : Option ((List Int) × Int) := bif v125 then ( (s_131 n v116).bind fun v126 => (app v117 ([v126])).bind fun v127 => K1 (wr (v116 + 1)) v127 ) else ( K1 (wr (v116 + 1)) v117 )
def s_61_l1 (n : Nat) (v102 : Windows) (v103 : Int) : Nat → Int → (List (List Int)) → Option ((List Int) × Int)
| 0, _, _ => none
| k1 + 1, v116, v117 => bif (decide (v116 < (wr (v103 + 1)))) then ( (s_100 n v102).bind fun v123 => bif (decide ((bits .andNot .i64 v123 v116) = 0)) then ( s_61_j5 n (s_61_l1 n v102 v103 k1) v116 v117 true ) else ( (s_99 n v102 (bits .andNot .i64 v123 v116)).bind fun v124 => s_61_j5 n (s_61_l1 n v102 v103 k1) v116 v117 v124 ) ) else ( (s_129 n v117 (fun z0 z1 => s_137 n z0 z1)).bind fun v128 =>
 some ((v128.1, 0)) )
def s_61 (n : Nat) (v0 : Drum) : Option ((List Int) × Int) := (s_84 n v0 true).bind fun v101 => bif (!decide (v101.2 = 0)) then ( some (([], v101.2)) ) else ( (s_98 n v0 v101.1).bind fun v102 => (s_100 n v102).bind fun v103 => s_61_l1 n v102 v103 n 0 [] )
theorem c_61 (n : Nat) (v0 : Drum) {r : ((List Int) × Int)} (h : s_61 n v0 = some r) :
  Fun Tryz.prog 61 [.agg (cDrum v0)] (.ret (.tup [.sl (r.1.map eI), .val (.int .i64 r.2)])) := by
 unfold s_61 at h
 refine enterW 52 Tryz.func61 q q q ?_
 intro w0 F0
 change W _ _ (Ev [(0, .pv (.agg (cDrum v0)))]) _
 refine W.seq<|W.region<|ob (g_box q q q q q) q q<|va q q q q q<|va q q q q q<|on0<|Sq.n<|W.seq<|W.region<|ov (g_loadA q q q q q ag_27 sz_27 q q) q ?_
 obtain ⟨v101, e101, h⟩ := bind_some h
 refine ov (g_call q q q ca_84 q (c_84 _ _ _ e101)) q<|vm q q q q q<|ov (g_extract q q q q q) q<|ov (g_extract q q q q q) q<|va q q q q q<|va q q q q q<|on0<|Sq.n<|W.seq<|W.seq<|W.region<|vm q q q q q<|ov (g_neq q q q q q) q<|on0<|Sq.n<|W.cond (b := (!decide (v101.2 = 0))) q (fun hc => ?_) (fun hc => ?_)
 ·have h := bif_t h hc
  refine W.seq<|W.region<|vm q q q q q<|va q q q q q<|va q q q q q<|on0<|Sq.n<|W.conv (Conv.nilsl 2 q)<|W.ret<|Sq.r ?_
  obtain rfl := Option.some.inj h
  exact Fin.r q (.cons (.tmp _ _ q) (.cons (.tmp _ _ q) .nil)) q
 ·have h := bif_f h hc
  refine W.skip<|Sq.n<|W.seq<|W.region<|ov (g_loadA q q q q q ag_27 sz_27 q q) q<|vm q q q q q ?_
  obtain ⟨v102, e102, h⟩ := bind_some h
  refine ov (g_call q q q ca_98 q (c_98 _ _ _ e102)) q<|ob (g_alloc q q q zr_129) q q<|Ops.step q (s_storeB q q q q q q sz_129 q q)<|on0<|Sq.n<|W.seq<|W.region<|va q q q q q<|on0<|Sq.n<|W.seq<|W.seq<|W.region<|ov (g_loadA q q q q q ag_129 sz_129 q q) q ?_
  obtain ⟨v103, e103, h⟩ := bind_some h
  refine ov (g_call q q q ca_100 q (c_100 _ _ e103)) q<|ov (g_add q q q q q) q<|vm q q q q q<|on0<|Sq.n<|W.block<|W.conv (Conv.nilrow 7 44 23 1 q q)<|W.loop (σ := Nat × Int × (List (List Int))) (fun s => (⟨[(6, .box 6 0), (7, .row 44), (25, .pv (.val (.int .i64 (wr (v103 + 1))))), (26, .pv (.i s.2.1))], [(6, 129, [.pv (.sl (List.map cSpan v102.own)), .pv (.cache (List.map spanP v102.own))])], [(44, ⟨23, 1, List.map (eL eI) s.2.2⟩)]⟩ : Env)) (fun s => s_61_l1 n v102 v103 s.1 s.2.1 s.2.2 = some r) (fun s => s.1) (n, 0, []) h (has_mk ⟨q, q, q, q, trivial⟩ ⟨q, trivial⟩ ⟨q, trivial⟩ q) ?_
  rintro ⟨k1, v116, v117⟩ h
  change s_61_l1 n v102 v103 k1 v116 v117 = some r at h
  rcases k1 with _ | k1
  ·rw [s_61_l1] at h
   cases h
  ·rw [s_61_l1] at h
   change W _ _ (⟨[(6, .box 6 0), (7, .row 44), (25, .pv (.val (.int .i64 (wr (v103 + 1))))), (26, .pv (.i v116))], [(6, 129, [.pv (.sl (List.map cSpan v102.own)), .pv (.cache (List.map spanP v102.own))])], [(44, ⟨23, 1, List.map (eL eI) v117⟩)]⟩ : Env) _
   refine W.seq<|W.region<|ov (g_lss q q q q q) q<|on0<|Sq.n<|W.seq<|W.cond (b := (decide (v116 < (wr (v103 + 1))))) q (fun hc => ?_) (fun hc => ?_)
   ·have h := bif_t h hc
    refine W.skip<|Sq.n<|W.seq<|W.block<|W.seq<|W.region<|vm q q q q q<|va q q q q q<|on0<|Sq.n<|W.seq<|W.region<|ov (g_loadA q q q q q ag_129 sz_129 q q) q ?_
    obtain ⟨v123, e123, h⟩ := bind_some h
    refine ov (g_call q q q ca_100 q (c_100 _ _ e123)) q<|vm q q q q q<|ov (g_andNot q q q q q) q<|va q q q q q<|on0<|Sq.n<|W.seqJ (σ := Bool) (fun s => (⟨[(6, .box 6 0), (7, .row 44), (8, .pv (.i v116)), (25, .pv (.val (.int .i64 (wr (v103 + 1))))), (26, .pv (.i v116)), (39, .pv (.b s))], [(6, 129, [.pv (.sl (List.map cSpan v102.own)), .pv (.cache (List.map spanP v102.own))])], [(44, ⟨23, 1, List.map (eL eI) v117⟩)]⟩ : Env)) (fun s => s_61_j5 n (s_61_l1 n v102 v103 k1) v116 v117 s = some r) ?_ ?_
    ·refine W.region<|vm q q q q q<|ov (g_eql q q q q q) q<|vm q q q q q<|Ops.split 35 q (fun hb => ?_) (fun hb => ?_)
     ·have h := bif_t h hb
      refine o2 q q q q q q<|o2 q q q q q q<|o2 q q q q q q<|vt q q q q q q<|on0<|Sq.n<|⟨true, h, has_mk ⟨q, q, q, q, q, q, trivial⟩ ⟨q, trivial⟩ ⟨q, trivial⟩ q⟩
     ·have h := bif_f h hb
      refine on q q q<|ov (g_loadA q q q q q ag_129 sz_129 q q) q<|on q q q<|vm q q q q q<|on q q q ?_
      obtain ⟨v124, e124, h⟩ := bind_some h
      refine ov (g_call q q q ca_99 q (c_99 _ _ _ e124)) q<|vf q q q q q q<|on0<|Sq.n<|⟨v124, h, has_mk ⟨q, q, q, q, q, q, trivial⟩ ⟨q, trivial⟩ ⟨q, trivial⟩ q⟩
    ·rintro v125 h
     change s_61_j5 n (s_61_l1 n v102 v103 k1) v116 v117 v125 = some r at h
     unfold s_61_j5 at h
     change W _ _ (⟨[(6, .box 6 0), (7, .row 44), (8, .pv (.i v116)), (25, .pv (.val (.int .i64 (wr (v103 + 1))))), (26, .pv (.i v116)), (39, .pv (.b v125))], [(6, 129, [.pv (.sl (List.map cSpan v102.own)), .pv (.cache (List.map spanP v102.own))])], [(44, ⟨23, 1, List.map (eL eI) v117⟩)]⟩ : Env) _
     refine W.cond (b := v125) q (fun hc => ?_) (fun hc => ?_)
     ·have h := bif_t h hc
      refine W.region<|vm q q q q q<|vm q q q q q ?_
      obtain ⟨v126, e126, h⟩ := bind_some h
      refine ov (g_call q q q ca_131 q (c_131 _ _ e126)) q<|Ops.r (g_buildSlice (cs := [.sl (List.map eI v126)]) (es := List.map (eL eI) [v126]) q q q el_151 ⟨_, zr_23⟩ q q q q q q) q q ?_
      obtain ⟨v127, e127, h⟩ := bind_some h
      exact Ops.step q (s_appendR (enc := (eL eI)) e127 q q q q q q q q ex_151 (fun _ => q))<|va q q q q q<|on0<|Bl.n<|Sq.n<|W.region<|ov (g_add q q q q q) q<|vm q q q q q<|on0<|Sq.n<|⟨(k1, wr (v116 + 1), v127), h, Nat.lt_succ_self _, has_mk ⟨q, q, q, q, trivial⟩ ⟨q, trivial⟩ ⟨q, trivial⟩ q⟩
     ·have h := bif_f h hc
      exact W.skip<|Bl.n<|Sq.n<|W.region<|ov (g_add q q q q q) q<|vm q q q q q<|on0<|Sq.n<|⟨(k1, wr (v116 + 1), v117), h, Nat.lt_succ_self _, has_mk ⟨q, q, q, q, trivial⟩ ⟨q, trivial⟩ ⟨q, trivial⟩ q⟩
   ·have h := bif_f h hc
    refine W.exit<|Sq.e<|Sq.e<|Bl.e<|Sq.n<|W.seq<|W.region<|vm q q q q q<|Ops.share (k := 44) q ?_
    obtain ⟨v128, e128, h⟩ := bind_some h
    refine ov (g_call q q q ca_129 q (c_129 _ _ _ ca_137 (fun _ _ y e => c_137 _ _ _ e) e128)) q<|vm q q q q q<|ov (g_extract q q q q q) q<|ov (g_extract q q q q q) q<|va q q q q q<|va q q q q q<|on0<|Sq.n<|W.seq<|W.region<|vm q q q q q<|va q q q q q<|va q q q q q<|on0<|Sq.n<|W.ret ?_
    obtain rfl := Option.some.inj h
    exact Fin.r q (.cons (.tmp _ _ q) (.cons (.tmp _ _ q) .nil)) q
def s_69_l1 (v101 : ((List Filled) × Int)) : Nat → Int → (List Int) → Option ((List Int) × Int)
| 0, _, _ => none
| k1 + 1, v108, v109 => bif (decide (v108 < (v101.1.length : Int))) then ( (ix v101.1 v108).bind fun v112 => (app v109 ([v112.acid])).bind fun v113 => (s_69_l1 v101 k1) (wr (v108 + 1)) v113 ) else ( some ((v109, v101.2)) )
def s_69 (n : Nat) (v0 : Drum) : Option ((List Int) × Int) := (s_84 n v0 true).bind fun v101 => s_69_l1 v101 n 0 []
theorem c_69 (n : Nat) (v0 : Drum) {r : ((List Int) × Int)} (h : s_69 n v0 = some r) :
  Fun Tryz.prog 69 [.agg (cDrum v0)] (.ret (.tup [.sl (r.1.map eI), .val (.int .i64 r.2)])) := by
 unfold s_69 at h
 refine enterW 28 Tryz.func69 q q q ?_
 intro w0 F0
 change W _ _ (Ev [(0, .pv (.agg (cDrum v0)))]) _
 refine W.seq<|W.region<|ob (g_box q q q q q) q q<|va q q q q q<|va q q q q q<|on0<|Sq.n<|W.seq<|W.region<|ov (g_loadA q q q q q ag_27 sz_27 q q) q ?_
 obtain ⟨v101, e101, h⟩ := bind_some h
 refine ov (g_call q q q ca_84 q (c_84 _ _ _ e101)) q<|vm q q q q q<|ov (g_extract q q q q q) q<|ov (g_extract q q q q q) q<|va q q q q q<|va q q q q q<|on0<|Sq.n<|W.seq<|W.region<|va q q q q q<|on0<|Sq.n<|W.seq<|W.seq<|W.region<|vm q q q q q<|ov (g_lenM (l := v101.1) (enc := cFilled) q ul_111 q q q) q<|vm q q q q q<|on0<|Sq.n<|W.block<|W.conv (Conv.nilrow 6 24 3 1 q q)<|W.loop (σ := Nat × Int × (List Int)) (fun s => (⟨[(5, .pv (.i v101.2)), (6, .row 24), (14, .pv (.sl (List.map cFilled v101.1))), (15, .pv (.val (.int .i64 (v101.1.length : Int)))), (16, .pv (.i s.2.1))], [], [(24, ⟨3, 1, List.map eI s.2.2⟩)]⟩ : Env)) (fun s => s_69_l1 v101 s.1 s.2.1 s.2.2 = some r) (fun s => s.1) (n, 0, []) h (has_mk ⟨q, q, q, q, q, trivial⟩ trivial ⟨q, trivial⟩ q) ?_
 rintro ⟨k1, v108, v109⟩ h
 change s_69_l1 v101 k1 v108 v109 = some r at h
 rcases k1 with _ | k1
 ·rw [s_69_l1] at h
  cases h
 ·rw [s_69_l1] at h
  change W _ _ (⟨[(5, .pv (.i v101.2)), (6, .row 24), (14, .pv (.sl (List.map cFilled v101.1))), (15, .pv (.val (.int .i64 (v101.1.length : Int)))), (16, .pv (.i v108))], [], [(24, ⟨3, 1, List.map eI v109⟩)]⟩ : Env) _
  refine W.seq<|W.region<|ov (g_lss q q q q q) q<|on0<|Sq.n<|W.seq<|W.cond (b := (decide (v108 < (v101.1.length : Int)))) q (fun hc => ?_) (fun hc => ?_)
  ·have h := bif_t h hc
   refine W.skip<|Sq.n<|W.seq<|W.block<|W.seq<|W.region ?_
   obtain ⟨v112, e112, h⟩ := bind_some h
   refine ov (g_idxI (l := v101.1) (enc := cFilled) e112 q q q q q el_111 q) q<|ov (g_loadRA q q q q ag_115 sz_115 q q) q<|ob (g_alloc q q q zr_115) q q<|Ops.step q (s_storeB q q q q q q sz_115 q q)<|on0<|Sq.n<|W.region<|vm q q q q q<|ov (g_fld q q q q fl_115_1) q<|ov (g_load1 q q q q q q ag_3) q<|Ops.r (g_buildSlice (cs := [.val (.int .i64 v112.acid)]) (es := List.map eI [v112.acid]) q q q el_23 ⟨_, zr_3⟩ q q q q q q) q q ?_
   obtain ⟨v113, e113, h⟩ := bind_some h
   exact Ops.step q (s_appendR (enc := eI) e113 q q q q q q q q ex_23 (fun _ => q))<|va q q q q q<|on0<|Bl.n<|Sq.n<|W.region<|ov (g_add q q q q q) q<|vm q q q q q<|on0<|Sq.n<|⟨(k1, wr (v108 + 1), v113), h, Nat.lt_succ_self _, has_mk ⟨q, q, q, q, q, trivial⟩ trivial ⟨q, trivial⟩ q⟩
  ·have h := bif_f h hc
   refine W.exit<|Sq.e<|Sq.e<|Bl.e<|Sq.n<|W.seq<|W.region<|vm q q q q q<|vm q q q q q<|va q q q q q<|va q q q q q<|on0<|Sq.n<|W.share (k := 24) q<|W.ret ?_
   obtain rfl := Option.some.inj h
   exact Fin.r q (.cons (.tmp _ _ q) (.cons (.tmp _ _ q) .nil)) q
end Go.Proofs.YtohmhlkdgfcaeaaGreatDoor
namespace Go.Proofs.YtohmhlkdgfcaeaaGreatDoor
open Go Go.RowKit
set_option maxRecDepth 4000
attribute [local irreducible] W Ops GS GSG
def s_110_l1 (n : Nat) (v0 : ByteArray) (v107 : Int) (v108 : Int) (v109 : (ByteArray × ByteArray × ByteArray × ByteArray)) (v110 : (List ByteArray)) : Nat → Int → (List Int) → (List Batch) → (List Acid) → (List Strip) → Option (Except Value (Drum))
| 0, _, _, _, _, _ => none
| k1 + 1, v172, v173, v174, v175, v176 => bif (decide (v172 < (v110.length : Int))) then ( (ix v110 v172).bind fun v205 => (s_162 n v205 (ByteArray.mk #[32])).bind fun v206 => bif (decide (v206.1 = v109.1)) then (
 (s_161 n v205 ([(ByteArray.mk #[97, 99, 105, 100]), (ByteArray.mk #[]), (ByteArray.mk #[]), (ByteArray.mk #[102, 97, 108, 108]), (ByteArray.mk #[]), (ByteArray.mk #[])])).bind fun v207 => Except.casesOn (motive := fun _ => Option (Except Value (Drum))) v207 (fun p => some (.error p)) (fun v208 => (ix v208 0).bind fun v209 => (ix v208 1).bind fun v210 => (ix v208 2).bind fun v211 =>
 (ix v208 3).bind fun v212 => (app v175 ([(Acid.mk (Span.mk v209 v210) (Span.mk v211 v212))])).bind fun v213 => (s_110_l1 n v0 v107 v108 v109 v110 k1) (wr (v172 + 1)) v173 v174 v213 v176 ) ) else ( bif (decide (v206.1 = v109.2.1)) then ( (s_163 n v205 (ByteArray.mk #[32])).bind fun v214 => (appz ([(ByteArray.mk #[97, 100, 100])]) v214).bind fun v215 => (s_161 n v205 v215).bind fun v216 =>
 Except.casesOn (motive := fun _ => Option (Except Value (Drum))) v216 (fun p => some (.error p)) (fun v217 => (s_110_l1 n v0 v107 v108 v109 v110 k1) (wr (v172 + 1)) v217 v174 v175 v176 ) ) else ( bif (decide (v206.1 = v109.2.2.1)) then ( (s_161 n v205 ([(ByteArray.mk #[115, 116, 114, 105, 112]), (ByteArray.mk #[]), (ByteArray.mk #[]), (ByteArray.mk #[])])).bind fun v218 =>
 Except.casesOn (motive := fun _ => Option (Except Value (Drum))) v218 (fun p => some (.error p)) (fun v219 => (ix v219 0).bind fun v220 => (ix v219 1).bind fun v221 => (ix v219 2).bind fun v222 => (app v176 ([(Strip.mk v220 v221 v222)])).bind fun v223 => (s_110_l1 n v0 v107 v108 v109 v110 k1) (wr (v172 + 1)) v173 v174 v175 v223 ) ) else (
 (s_161 n v205 ([(ByteArray.mk #[98, 97, 116, 99, 104]), (ByteArray.mk #[]), (ByteArray.mk #[]), (ByteArray.mk #[]), (ByteArray.mk #[]), (ByteArray.mk #[]), (ByteArray.mk #[])])).bind fun v224 => Except.casesOn (motive := fun _ => Option (Except Value (Drum))) v224 (fun p => some (.error p)) (fun v225 => (ix v225 0).bind fun v226 => (ix v225 1).bind fun v227 => (ix v225 2).bind fun v228 =>
 (ix v225 3).bind fun v229 => (ix v225 4).bind fun v230 => (ix v225 5).bind fun v231 => (app v174 ([(Batch.mk v226 v227 v228 v229 v230 v231)])).bind fun v232 => (s_110_l1 n v0 v107 v108 v109 v110 k1) (wr (v172 + 1)) v173 v232 v175 v176 ) ) ) ) ) else ( (s_105 n (Drum.mk v175 v108 v107 v173 v176 v174)).bind fun v233 => (s_160 n (decide (v233 = v0)) v0).bind fun v234 =>
 Except.casesOn (motive := fun _ => Option (Except Value (Drum))) v234 (fun p => some (.error p)) (fun v235 => some (.ok (Drum.mk v175 v108 v107 v173 v176 v174)) ) )
def s_110 (n : Nat) (v0 : ByteArray) : Option (Except Value (Drum)) := (s_159 n v0 (ByteArray.mk #[10])).bind fun v101 => (s_160 n (decide (3 ≤ (v101.length : Int))) v0).bind fun v102 => Except.casesOn (motive := fun _ => Option (Except Value (Drum))) v102 (fun p => some (.error p)) (fun v103 => (ix v101 0).bind fun v104 =>
 (s_161 n v104 ([(ByteArray.mk #[100, 114, 117, 109]), (ByteArray.mk #[]), (ByteArray.mk #[107, 110, 111, 119, 110]), (ByteArray.mk #[])])).bind fun v105 => Except.casesOn (motive := fun _ => Option (Except Value (Drum))) v105 (fun p => some (.error p)) (fun v106 => (ix v106 0).bind fun v107 => (ix v106 1).bind fun v108 => (s_154 n ).bind fun v109 =>
 (subl v101 1 (wr ((v101.length : Int) - 2))).bind fun v110 => s_110_l1 n v0 v107 v108 v109 v110 n 0 [] [] [] [] ) )
theorem c_110 (n : Nat) (v0 : ByteArray) {r : (Except Value (Drum))} (h : s_110 n v0 = some r) :
  Fun Tryz.prog 110 [.s v0] (rs (fun r => .agg (cDrum r)) r) := by
 unfold s_110 at h
 refine enterW 149 Tryz.func110 q q q ?_
 intro w0 F0
 change W _ _ (Ev [(0, .pv (.s v0))]) _
 refine W.seq<|W.region<|ob (g_alloc q q q zr_27) q q<|on0<|Sq.n<|W.seq<|W.region<|vm q q q q q ?_
 obtain ⟨v101, e101, h⟩ := bind_some h
 refine ov (g_call q q q ca_159 q (c_159 _ _ _ e101)) q<|va q q q q q<|on0<|Sq.n<|W.seq<|W.region<|vm q q q q q<|ov (g_lenM (l := v101) (enc := eS) q ul_141 q q q) q<|ov (g_geq q q q q q) q<|vm q q q q q ?_
 obtain ⟨v102, e102, h⟩ := bind_some h
 rcases v102 with p | v103
 ·obtain rfl := Option.some.inj h
  exact Ops.callpan q q ca_160 q (c_160 _ _ _ e102)<|Sq.p<|Fin.p q
 ·refine ov (g_call q q q ca_160 q (c_160 _ _ _ e102)) q<|on0<|Sq.n<|W.seq<|W.region<|vm q q q q q ?_
  obtain ⟨v104, e104, h⟩ := bind_some h
  refine ov (g_idxI (l := v101) (enc := eS) e104 q q q q q el_141 q) q<|ov (g_loadR1 q q q q q ag_9) q<|Ops.r (g_buildSlice (cs := [.s (ByteArray.mk #[100, 114, 117, 109]), .s (ByteArray.mk #[]), .s (ByteArray.mk #[107, 110, 111, 119, 110]), .s (ByteArray.mk #[])]) (es := List.map eS [(ByteArray.mk #[100, 114, 117, 109]), (ByteArray.mk #[]), (ByteArray.mk #[107, 110, 111, 119, 110]), (ByteArray.mk #[])]) q q q el_141 ⟨_, zr_9⟩ q q q q q q) q q<|Ops.share (k := 26) q ?_
  obtain ⟨v105, e105, h⟩ := bind_some h
  rcases v105 with p | v106
  ·obtain rfl := Option.some.inj h
   exact Ops.callpan q q ca_161 q (c_161 _ _ _ e105)<|Sq.p<|Fin.p q
  ·refine ov (g_call q q q ca_161 q (c_161 _ _ _ e105)) q<|va q q q q q<|on0<|Sq.n<|W.seq ?_
   obtain ⟨v107, e107, h⟩ := bind_some h
   obtain ⟨v108, e108, h⟩ := bind_some h
   refine W.draw (m := 8) Checked.mixed (Pre.v (GSG.of q (g_move q q q q)) ((Pre.v (GSG.of q (g_idxI (l := v106) (enc := eI) e107 q q q q q el_23 q)) ((Pre.v (GSG.of q (g_loadR1 q q q q q ag_3)) ((Pre.v (GSG.of q (g_move q q q q)) ((Pre.v (GSG.of q (g_idxI (l := v106) (enc := eI) e108 q q q q q el_23 q)) ((Pre.v (GSG.of q (g_loadR1 q q q q q ag_3)) ((Pre.v (GSG.of q (g_build (cs := [.val (.slice none 0 0), .val (.int .i64 v108), .val (.int .i64 v107), .val (.slice none 0 0), .val (.slice none 0 0), .val (.slice none 0 0)]) q q q zr_27 st_27 q q)) ((Pre.b (GSG.of q (g_alloc q q q zr_27)) q (Pre.nil _)))))))))))))))) (by kernel_rfl)<|Ops.step q (s_storeB q q q q q q sz_27 q q)<|on0<|Sq.n<|W.seq<|W.region ?_
   obtain ⟨v109, e109, h⟩ := bind_some h
   refine ov (g_call q q q ca_154 q (c_154 _  e109)) q<|ob (g_alloc q q q zr_170) q q<|Ops.step q (s_storeB q q q q q q sz_170 q q)<|on0<|Sq.n<|W.seq<|W.seq<|W.region<|vm q q q q q<|vm q q q q q<|ov (g_lenM (l := v101) (enc := eS) q ul_141 q q q) q<|ov (g_sub q q q q q) q ?_
   obtain ⟨v110, e110, h⟩ := bind_some h
   refine ov (g_sliceM (enc := eS) e110 q q q q el_141 (fun _ => q) q q) q<|ov (g_lenM (l := v110) (enc := eS) q ul_141 q q q) q<|vm q q q q q<|on0<|Sq.n<|W.block<|W.conv (Conv.nilcell 5 0 105 137 4 q q q)<|W.conv (Conv.nilcell 5 4 139 92 3 q q q)<|W.conv (Conv.nilcell 5 5 78 67 6 q q q)<|W.conv (Conv.softbox 5 q q)<|W.loop (σ := Nat × Int × (List Int) × (List Batch) × (List Acid) × (List Strip)) (fun s => (⟨[(0, .pv (.s v0)), (2, .box 2 0), (5, .box 5 0), (6, .box 6 0), (40, .pv (.sl (List.map eS v110))), (41, .pv (.val (.int .i64 (v110.length : Int)))), (42, .pv (.i s.2.1))], [(2, 27, [.pv (.val (.slice none 0 0)), .pv (.i 0), .pv (.i 0), .pv (.val (.slice none 0 0)), .pv (.val (.slice none 0 0)), .pv (.val (.slice none 0 0))]), (5, 27, [.row 105, .pv (.i v108), .pv (.i v107), .pv (.sl (List.map eI s.2.2.1)), .row 139, .row 78]), (6, 170, [.pv (.s v109.1), .pv (.s v109.2.1), .pv (.s v109.2.2.1), .pv (.s v109.2.2.2)])], [(78, ⟨67, 6, List.map cBatch s.2.2.2.1⟩), (105, ⟨137, 4, List.map cAcid s.2.2.2.2.1⟩), (139, ⟨92, 3, List.map cStrip s.2.2.2.2.2⟩)]⟩ : Env)) (fun s => s_110_l1 n v0 v107 v108 v109 v110 s.1 s.2.1 s.2.2.1 s.2.2.2.1 s.2.2.2.2.1 s.2.2.2.2.2 = some r) (fun s => s.1) (n, 0, [], [], [], []) h (has_mk ⟨q, q, q, q, q, q, q, trivial⟩ ⟨q, q, q, trivial⟩ ⟨q, q, q, trivial⟩ q) ?_
   rintro ⟨k1, v172, v173, v174, v175, v176⟩ h
   change s_110_l1 n v0 v107 v108 v109 v110 k1 v172 v173 v174 v175 v176 = some r at h
   rcases k1 with _ | k1
   ·rw [s_110_l1] at h
    cases h
   ·rw [s_110_l1] at h
    change W _ _ (⟨[(0, .pv (.s v0)), (2, .box 2 0), (5, .box 5 0), (6, .box 6 0), (40, .pv (.sl (List.map eS v110))), (41, .pv (.val (.int .i64 (v110.length : Int)))), (42, .pv (.i v172))], [(2, 27, [.pv (.val (.slice none 0 0)), .pv (.i 0), .pv (.i 0), .pv (.val (.slice none 0 0)), .pv (.val (.slice none 0 0)), .pv (.val (.slice none 0 0))]), (5, 27, [.row 105, .pv (.i v108), .pv (.i v107), .pv (.sl (List.map eI v173)), .row 139, .row 78]), (6, 170, [.pv (.s v109.1), .pv (.s v109.2.1), .pv (.s v109.2.2.1), .pv (.s v109.2.2.2)])], [(78, ⟨67, 6, List.map cBatch v174⟩), (105, ⟨137, 4, List.map cAcid v175⟩), (139, ⟨92, 3, List.map cStrip v176⟩)]⟩ : Env) _
    refine W.seq<|W.region<|ov (g_lss q q q q q) q<|on0<|Sq.n<|W.seq<|W.cond (b := (decide (v172 < (v110.length : Int)))) q (fun hc => ?_) (fun hc => ?_)
    ·have h := bif_t h hc
     refine W.skip<|Sq.n<|W.seq<|W.block<|W.seq<|W.region ?_
     obtain ⟨v205, e205, h⟩ := bind_some h
     refine ov (g_idxI (l := v110) (enc := eS) e205 q q q q q el_141 q) q<|ov (g_loadR1 q q q q q ag_9) q<|va q q q q q<|on0<|Sq.n<|W.seq<|W.region<|vm q q q q q ?_
     obtain ⟨v206, e206, h⟩ := bind_some h
     refine ov (g_call q q q ca_162 q (c_162 _ _ _ e206)) q<|vm q q q q q<|ov (g_extract q q q q q) q<|ov (g_extract q q q q q) q<|ov (g_extract q q q q q) q<|va q q q q q<|va q q q q q<|va q q q q q<|on0<|Sq.n<|W.seq<|W.region<|vm q q q q q<|on0<|Sq.n<|W.block<|W.seq<|W.region<|ov (g_idxA q q q q q ar_170 (by decide) (by decide)) q<|ov (g_load1 q q q q q q ag_9) q<|ov (g_seq q q q q q) q<|va q q q q q<|on0<|Sq.n<|W.cond (b := (decide (v206.1 = v109.1))) q (fun hc => ?_) (fun hc => ?_)
     ·have h := bif_t h hc
      refine W.seq<|W.region<|vm q q q q q<|Ops.r (g_buildSlice (cs := [.s (ByteArray.mk #[97, 99, 105, 100]), .s (ByteArray.mk #[]), .s (ByteArray.mk #[]), .s (ByteArray.mk #[102, 97, 108, 108]), .s (ByteArray.mk #[]), .s (ByteArray.mk #[])]) (es := List.map eS [(ByteArray.mk #[97, 99, 105, 100]), (ByteArray.mk #[]), (ByteArray.mk #[]), (ByteArray.mk #[102, 97, 108, 108]), (ByteArray.mk #[]), (ByteArray.mk #[])]) q q q el_141 ⟨_, zr_9⟩ q q q q q q) q q<|Ops.share (k := 85) q ?_
      obtain ⟨v207, e207, h⟩ := bind_some h
      rcases v207 with p | v208
      ·obtain rfl := Option.some.inj h
       exact Ops.callpan q q ca_161 q (c_161 _ _ _ e207)<|Sq.p<|Bl.p<|Bl.p<|Sq.p<|Sq.p<|Bl.p<|Sq.p<|Fin.p q
      ·refine ov (g_call q q q ca_161 q (c_161 _ _ _ e207)) q<|va q q q q q<|on0<|Sq.n ?_
       obtain ⟨v209, e209, h⟩ := bind_some h
       obtain ⟨v210, e210, h⟩ := bind_some h
       obtain ⟨v211, e211, h⟩ := bind_some h
       obtain ⟨v212, e212, h⟩ := bind_some h
       refine W.draw (m := 18) Checked.mixed (Pre.v (GSG.of q (g_fld q q q q fl_27_0)) ((Pre.v (GSG.of q (g_load1 q q q q q q ag_22)) ((Pre.v (GSG.of q (g_move q q q q)) ((Pre.v (GSG.of q (g_idxI (l := v208) (enc := eI) e209 q q q q q el_23 q)) ((Pre.v (GSG.of q (g_loadR1 q q q q q ag_3)) ((Pre.v (GSG.of q (g_move q q q q)) ((Pre.v (GSG.of q (g_idxI (l := v208) (enc := eI) e210 q q q q q el_23 q)) ((Pre.v (GSG.of q (g_loadR1 q q q q q ag_3)) ((Pre.v (GSG.of q (g_build (cs := (cSpan (Span.mk v209 v210))) q q q zr_57 st_57 q q)) ((Pre.v (GSG.of q (g_move q q q q)) ((Pre.v (GSG.of q (g_idxI (l := v208) (enc := eI) e211 q q q q q el_23 q)) ((Pre.v (GSG.of q (g_loadR1 q q q q q ag_3)) ((Pre.v (GSG.of q (g_move q q q q)) ((Pre.v (GSG.of q (g_idxI (l := v208) (enc := eI) e212 q q q q q el_23 q)) ((Pre.v (GSG.of q (g_loadR1 q q q q q ag_3)) ((Pre.v (GSG.of q (g_build (cs := (cSpan (Span.mk v211 v212))) q q q zr_57 st_57 q q)) ((Pre.v (GSG.of q (g_build (cs := (cAcid (Acid.mk (Span.mk v209 v210) (Span.mk v211 v212)))) q q q zr_137 st_137 q q)) ((Pre.r (GSG.of q (g_buildSlice (cs := [.val (.int .i64 v209), .val (.int .i64 v210), .val (.int .i64 v211), .val (.int .i64 v212)]) (es := List.map cAcid [(Acid.mk (Span.mk v209 v210) (Span.mk v211 v212))]) q q q el_22 ⟨_, zr_137⟩ q q q q q q)) q (Pre.nil _)))))))))))))))))))))))))))))))))))) (by kernel_rfl) ?_
       obtain ⟨v213, e213, h⟩ := bind_some h
       exact Ops.step q (s_appendR (enc := cAcid) e213 q q q q q q q q ex_22 (fun _ => q))<|ov (g_fld q q q q fl_27_0) q<|Ops.step q (s_storeB q q q q q q sz_22 q q)<|on0<|Bl.n<|Bl.n<|Sq.n<|W.region<|ov (g_add q q q q q) q<|vm q q q q q<|on0<|Sq.n<|⟨(k1, wr (v172 + 1), v173, v174, v213, v176), h, Nat.lt_succ_self _, has_mk ⟨q, q, q, q, q, q, q, trivial⟩ ⟨q, q, q, trivial⟩ ⟨q, q, q, trivial⟩ q⟩
     ·have h := bif_f h hc
      refine W.seq<|W.region<|ov (g_idxA q q q q q ar_170 (by decide) (by decide)) q<|ov (g_load1 q q q q q q ag_9) q<|ov (g_seq q q q q q) q<|va q q q q q<|on0<|Sq.n<|W.cond (b := (decide (v206.1 = v109.2.1))) q (fun hc => ?_) (fun hc => ?_)
      ·have h := bif_t h hc
       refine W.seq<|W.region<|Ops.r (g_buildSlice (cs := [.s (ByteArray.mk #[97, 100, 100])]) (es := List.map eS [(ByteArray.mk #[97, 100, 100])]) q q q el_141 ⟨_, zr_9⟩ q q q q q q) q q<|vm q q q q q ?_
       obtain ⟨v214, e214, h⟩ := bind_some h
       refine ov (g_call q q q ca_163 q (c_163 _ _ _ e214)) q ?_
       obtain ⟨v215, e215, h⟩ := bind_some h
       refine Ops.step q (s_appendZS e215 q q q q q q ul_141 ui_3 zi_9)<|va q q q q q<|on0<|Sq.n<|W.region<|vm q q q q q<|vm q q q q q<|Ops.share (k := 111) q ?_
       obtain ⟨v216, e216, h⟩ := bind_some h
       rcases v216 with p | v217
       ·obtain rfl := Option.some.inj h
        exact Ops.callpan q q ca_161 q (c_161 _ _ _ e216)<|Bl.p<|Bl.p<|Sq.p<|Sq.p<|Bl.p<|Sq.p<|Fin.p q
       ·exact ov (g_call q q q ca_161 q (c_161 _ _ _ e216)) q<|ov (g_fld q q q q fl_27_3) q<|Ops.step q (s_storeB q q q q q q sz_23 q q)<|on0<|Bl.n<|Bl.n<|Sq.n<|W.region<|ov (g_add q q q q q) q<|vm q q q q q<|on0<|Sq.n<|⟨(k1, wr (v172 + 1), v217, v174, v175, v176), h, Nat.lt_succ_self _, has_mk ⟨q, q, q, q, q, q, q, trivial⟩ ⟨q, q, q, trivial⟩ ⟨q, q, q, trivial⟩ q⟩
      ·have h := bif_f h hc
       refine W.seq<|W.region<|ov (g_idxA q q q q q ar_170 (by decide) (by decide)) q<|ov (g_load1 q q q q q q ag_9) q<|ov (g_seq q q q q q) q<|va q q q q q<|on0<|Sq.n<|W.cond (b := (decide (v206.1 = v109.2.2.1))) q (fun hc => ?_) (fun hc => ?_)
       ·have h := bif_t h hc
        refine W.seq<|W.region<|vm q q q q q<|Ops.r (g_buildSlice (cs := [.s (ByteArray.mk #[115, 116, 114, 105, 112]), .s (ByteArray.mk #[]), .s (ByteArray.mk #[]), .s (ByteArray.mk #[])]) (es := List.map eS [(ByteArray.mk #[115, 116, 114, 105, 112]), (ByteArray.mk #[]), (ByteArray.mk #[]), (ByteArray.mk #[])]) q q q el_141 ⟨_, zr_9⟩ q q q q q q) q q<|Ops.share (k := 124) q ?_
        obtain ⟨v218, e218, h⟩ := bind_some h
        rcases v218 with p | v219
        ·obtain rfl := Option.some.inj h
         exact Ops.callpan q q ca_161 q (c_161 _ _ _ e218)<|Sq.p<|Bl.p<|Bl.p<|Sq.p<|Sq.p<|Bl.p<|Sq.p<|Fin.p q
        ·refine ov (g_call q q q ca_161 q (c_161 _ _ _ e218)) q<|va q q q q q<|on0<|Sq.n ?_
         obtain ⟨v220, e220, h⟩ := bind_some h
         obtain ⟨v221, e221, h⟩ := bind_some h
         obtain ⟨v222, e222, h⟩ := bind_some h
         refine W.draw (m := 13) Checked.mixed (Pre.v (GSG.of q (g_fld q q q q fl_27_4)) ((Pre.v (GSG.of q (g_load1 q q q q q q ag_24)) ((Pre.v (GSG.of q (g_move q q q q)) ((Pre.v (GSG.of q (g_idxI (l := v219) (enc := eI) e220 q q q q q el_23 q)) ((Pre.v (GSG.of q (g_loadR1 q q q q q ag_3)) ((Pre.v (GSG.of q (g_move q q q q)) ((Pre.v (GSG.of q (g_idxI (l := v219) (enc := eI) e221 q q q q q el_23 q)) ((Pre.v (GSG.of q (g_loadR1 q q q q q ag_3)) ((Pre.v (GSG.of q (g_move q q q q)) ((Pre.v (GSG.of q (g_idxI (l := v219) (enc := eI) e222 q q q q q el_23 q)) ((Pre.v (GSG.of q (g_loadR1 q q q q q ag_3)) ((Pre.v (GSG.of q (g_build (cs := (cStrip (Strip.mk v220 v221 v222))) q q q zr_92 st_92 q q)) ((Pre.r (GSG.of q (g_buildSlice (cs := [.val (.int .i64 v220), .val (.int .i64 v221), .val (.int .i64 v222)]) (es := List.map cStrip [(Strip.mk v220 v221 v222)]) q q q el_24 ⟨_, zr_92⟩ q q q q q q)) q (Pre.nil _)))))))))))))))))))))))))) (by kernel_rfl) ?_
         obtain ⟨v223, e223, h⟩ := bind_some h
         exact Ops.step q (s_appendR (enc := cStrip) e223 q q q q q q q q ex_24 (fun _ => q))<|ov (g_fld q q q q fl_27_4) q<|Ops.step q (s_storeB q q q q q q sz_24 q q)<|on0<|Bl.n<|Bl.n<|Sq.n<|W.region<|ov (g_add q q q q q) q<|vm q q q q q<|on0<|Sq.n<|⟨(k1, wr (v172 + 1), v173, v174, v175, v223), h, Nat.lt_succ_self _, has_mk ⟨q, q, q, q, q, q, q, trivial⟩ ⟨q, q, q, trivial⟩ ⟨q, q, q, trivial⟩ q⟩
       ·have h := bif_f h hc
        refine W.seq<|W.region<|vm q q q q q<|Ops.r (g_buildSlice (cs := [.s (ByteArray.mk #[98, 97, 116, 99, 104]), .s (ByteArray.mk #[]), .s (ByteArray.mk #[]), .s (ByteArray.mk #[]), .s (ByteArray.mk #[]), .s (ByteArray.mk #[]), .s (ByteArray.mk #[])]) (es := List.map eS [(ByteArray.mk #[98, 97, 116, 99, 104]), (ByteArray.mk #[]), (ByteArray.mk #[]), (ByteArray.mk #[]), (ByteArray.mk #[]), (ByteArray.mk #[]), (ByteArray.mk #[])]) q q q el_141 ⟨_, zr_9⟩ q q q q q q) q q<|Ops.share (k := 54) q ?_
        obtain ⟨v224, e224, h⟩ := bind_some h
        rcases v224 with p | v225
        ·obtain rfl := Option.some.inj h
         exact Ops.callpan q q ca_161 q (c_161 _ _ _ e224)<|Sq.p<|Bl.p<|Bl.p<|Sq.p<|Sq.p<|Bl.p<|Sq.p<|Fin.p q
        ·refine ov (g_call q q q ca_161 q (c_161 _ _ _ e224)) q<|va q q q q q<|on0<|Sq.n ?_
         obtain ⟨v226, e226, h⟩ := bind_some h
         obtain ⟨v227, e227, h⟩ := bind_some h
         obtain ⟨v228, e228, h⟩ := bind_some h
         obtain ⟨v229, e229, h⟩ := bind_some h
         obtain ⟨v230, e230, h⟩ := bind_some h
         obtain ⟨v231, e231, h⟩ := bind_some h
         refine W.draw (m := 22) Checked.mixed (Pre.v (GSG.of q (g_fld q q q q fl_27_5)) ((Pre.v (GSG.of q (g_load1 q q q q q q ag_25)) ((Pre.v (GSG.of q (g_move q q q q)) ((Pre.v (GSG.of q (g_idxI (l := v225) (enc := eI) e226 q q q q q el_23 q)) ((Pre.v (GSG.of q (g_loadR1 q q q q q ag_3)) ((Pre.v (GSG.of q (g_move q q q q)) ((Pre.v (GSG.of q (g_idxI (l := v225) (enc := eI) e227 q q q q q el_23 q)) ((Pre.v (GSG.of q (g_loadR1 q q q q q ag_3)) ((Pre.v (GSG.of q (g_move q q q q)) ((Pre.v (GSG.of q (g_idxI (l := v225) (enc := eI) e228 q q q q q el_23 q)) ((Pre.v (GSG.of q (g_loadR1 q q q q q ag_3)) ((Pre.v (GSG.of q (g_move q q q q)) ((Pre.v (GSG.of q (g_idxI (l := v225) (enc := eI) e229 q q q q q el_23 q)) ((Pre.v (GSG.of q (g_loadR1 q q q q q ag_3)) ((Pre.v (GSG.of q (g_move q q q q)) ((Pre.v (GSG.of q (g_idxI (l := v225) (enc := eI) e230 q q q q q el_23 q)) ((Pre.v (GSG.of q (g_loadR1 q q q q q ag_3)) ((Pre.v (GSG.of q (g_move q q q q)) ((Pre.v (GSG.of q (g_idxI (l := v225) (enc := eI) e231 q q q q q el_23 q)) ((Pre.v (GSG.of q (g_loadR1 q q q q q ag_3)) ((Pre.v (GSG.of q (g_build (cs := (cBatch (Batch.mk v226 v227 v228 v229 v230 v231))) q q q zr_67 st_67 q q)) ((Pre.r (GSG.of q (g_buildSlice (cs := [.val (.int .i64 v226), .val (.int .i64 v227), .val (.int .i64 v228), .val (.int .i64 v229), .val (.int .i64 v230), .val (.int .i64 v231)]) (es := List.map cBatch [(Batch.mk v226 v227 v228 v229 v230 v231)]) q q q el_25 ⟨_, zr_67⟩ q q q q q q)) q (Pre.nil _)))))))))))))))))))))))))))))))))))))))))))) (by kernel_rfl) ?_
         obtain ⟨v232, e232, h⟩ := bind_some h
         exact Ops.step q (s_appendR (enc := cBatch) e232 q q q q q q q q ex_25 (fun _ => q))<|ov (g_fld q q q q fl_27_5) q<|Ops.step q (s_storeB q q q q q q sz_25 q q)<|on0<|Bl.n<|Bl.n<|Sq.n<|W.region<|ov (g_add q q q q q) q<|vm q q q q q<|on0<|Sq.n<|⟨(k1, wr (v172 + 1), v173, v232, v175, v176), h, Nat.lt_succ_self _, has_mk ⟨q, q, q, q, q, q, q, trivial⟩ ⟨q, q, q, trivial⟩ ⟨q, q, q, trivial⟩ q⟩
    ·have h := bif_f h hc
     refine W.exit<|Sq.e<|Sq.e<|Bl.e<|Sq.n<|W.seq<|W.region<|Ops.share (k := 105) q<|Ops.share (k := 139) q<|Ops.share (k := 78) q<|ov (g_loadA q q q q q ag_27 sz_27 q q) q ?_
     obtain ⟨v233, e233, h⟩ := bind_some h
     refine ov (g_call q q q ca_105 q (c_105 _ _ e233)) q<|vm q q q q q<|ov (g_seq q q q q q) q<|vm q q q q q ?_
     obtain ⟨v234, e234, h⟩ := bind_some h
     rcases v234 with p | v235
     ·obtain rfl := Option.some.inj h
      exact Ops.callpan q q ca_160 q (c_160 _ _ _ e234)<|Sq.p<|Fin.p q
     ·refine ov (g_call q q q ca_160 q (c_160 _ _ _ e234)) q<|on0<|Sq.n<|W.seq<|W.region<|ov (g_loadA q q q q q ag_27 sz_27 q q) q<|Ops.step q (s_storeB q q q q q q sz_27 q q)<|on0<|Sq.n<|W.ret ?_
      obtain rfl := Option.some.inj h
      exact Fin.r q (.cons (.agg _ _ _ _ (cDrum (Drum.mk v175 v108 v107 v173 v176 v174)) q q ag_27 sz_27) .nil) q
end Go.Proofs.YtohmhlkdgfcaeaaGreatDoor
namespace Go.Proofs.YtohmhlkdgfcaeaaGreatDoor
open Go Go.RowKit
set_option maxRecDepth 4000
attribute [local irreducible] W Ops GS GSG
def s_31 (n : Nat) (v0 : Drum) (v1 : Int) : Option (Int × Int) := (s_91 n v0 v1 (fun z0 z1 => s_92 n z0 z1)).bind fun v101 => some ((v101.1, v101.2))
theorem c_31 (n : Nat) (v0 : Drum) (v1 : Int) {r : (Int × Int)} (h : s_31 n v0 v1 = some r) :
  Fun Tryz.prog 31 [.agg (cDrum v0), .val (.int .i64 v1)] (.ret (.tup [.val (.int .i64 r.1), .val (.int .i64 r.2)])) := by
 unfold s_31 at h
 refine enterW 11 Tryz.func31 q q q ?_
 intro w0 F0
 change W _ _ (Ev [(0, .pv (.agg (cDrum v0))), (1, .pv (.i v1))]) _
 refine W.seq<|W.region<|ob (g_box q q q q q) q q<|va q q q q q<|va q q q q q<|on0<|Sq.n<|W.seq<|W.region<|ov (g_loadA q q q q q ag_27 sz_27 q q) q<|vm q q q q q ?_
 obtain ⟨v101, e101, h⟩ := bind_some h
 refine ov (g_call q q q ca_91 q (c_91 _ _ _ _ ca_92 (fun _ _ y e => c_92 _ _ _ e) e101)) q<|ov (g_extract q q q q q) q<|ov (g_extract q q q q q) q<|va q q q q q<|va q q q q q<|on0<|Sq.n<|W.ret ?_
 obtain rfl := Option.some.inj h
 exact Fin.r q (.cons (.tmp _ _ q) (.cons (.tmp _ _ q) .nil)) q
def s_32 (n : Nat) (v0 : Drum) (v1 : Int) : Option (Int × Int) := (s_91 n v0 v1 (fun z0 z1 => s_93 n z0 z1)).bind fun v101 => some ((v101.1, v101.2))
theorem c_32 (n : Nat) (v0 : Drum) (v1 : Int) {r : (Int × Int)} (h : s_32 n v0 v1 = some r) :
  Fun Tryz.prog 32 [.agg (cDrum v0), .val (.int .i64 v1)] (.ret (.tup [.val (.int .i64 r.1), .val (.int .i64 r.2)])) := by
 unfold s_32 at h
 refine enterW 11 Tryz.func32 q q q ?_
 intro w0 F0
 change W _ _ (Ev [(0, .pv (.agg (cDrum v0))), (1, .pv (.i v1))]) _
 refine W.seq<|W.region<|ob (g_box q q q q q) q q<|va q q q q q<|va q q q q q<|on0<|Sq.n<|W.seq<|W.region<|ov (g_loadA q q q q q ag_27 sz_27 q q) q<|vm q q q q q ?_
 obtain ⟨v101, e101, h⟩ := bind_some h
 refine ov (g_call q q q ca_91 q (c_91 _ _ _ _ ca_93 (fun _ _ y e => c_93 _ _ _ e) e101)) q<|ov (g_extract q q q q q) q<|ov (g_extract q q q q q) q<|va q q q q q<|va q q q q q<|on0<|Sq.n<|W.ret ?_
 obtain rfl := Option.some.inj h
 exact Fin.r q (.cons (.tmp _ _ q) (.cons (.tmp _ _ q) .nil)) q
end Go.Proofs.YtohmhlkdgfcaeaaGreatDoor
namespace Go.Proofs.YtohmhlkdgfcaeaaGreatDoor
open Go Go.RowKit
def isText : Value → Bool
 | .iface 177 (.agg ⟨[.string _]⟩) => true
 | _ => false
def noDrum : Drum := ⟨[], 0, 0, [], [], []⟩
def s_40 (n : Nat) (s : ByteArray) : Option (Drum × Int) :=
 bif decide (600 < ((ByteArray.size s : Nat) : Int)) then some (noDrum, 3) else
  (s_110 n s).bind fun r => match r with
   | .error v => bif isText v then some (noDrum, 4) else none
   | .ok d => (s_104 n d).bind fun b => bif !b then some (noDrum, 2) else some (d, 0)
set_option maxRecDepth 4000
attribute [local irreducible] W GS GSG
theorem isText_of {v : Value} (h : isText v = true) : ∃ s, v = .iface 177 (.agg #[.string s]) := by
 unfold isText at h
 split at h
 ·exact ⟨_, rfl⟩
 ·cases h
theorem bif_some8 {α : Type} {b : Bool} {x : Option α} {y : α} (h : (bif b then x else none) = some y) : b = true ∧ x = some y := by
 cases b with
 | true => exact ⟨rfl, h⟩
 | false => cases h
theorem c_40 (n : Nat) (s : ByteArray) {r : Drum × Int} (h : s_40 n s = some r) : Fun Tryz.prog 40 [.s s] (.ret (.tup [.agg (cDrum r.1), .val (.int .i64 r.2)])) := by
 unfold s_40 at h
 refine enterW 21 Tryz.func40 rfl rfl rfl ?_
 intro w0 F0
 change W _ _ (⟨[(0, .pv (.s s))], [], []⟩ : Env) _
 refine W.seq ?_
 refine W.region ?_
 refine Ops.b (g_box rfl rfl rfl rfl rfl) rfl rfl ?_
 refine Ops.b (g_alloc rfl rfl rfl zr_27) rfl rfl ?_
 refine Ops.v (g_assign rfl rfl rfl rfl) rfl ?_
 refine Ops.nil ?_
 refine Sq.n ?_
 refine W.seq ?_
 refine W.conv (Conv.freeze (k := 1) (cs := [.s s]) rfl) ?_
 refine W.seq ?_
 refine W.region ?_
 refine Ops.v (g_loadR1 rfl rfl rfl rfl rfl ag_9) rfl ?_
 refine Ops.v (g_len_s (c := default) rfl us_9 rfl rfl rfl) rfl ?_
 refine Ops.v (g_gtr rfl rfl rfl rfl rfl) rfl ?_
 refine Ops.nil ?_
 refine Sq.n ?_
 refine W.cond (b := decide (600 < ((ByteArray.size s : Nat) : Int))) rfl (fun hc => ?_) (fun hc => ?_)
 ·have h := bif_t h hc
  refine W.seq ?_
  refine W.region ?_
  refine Ops.v (g_build (cs := [.val (.slice none 0 0), .val (.int .i64 0), .val (.int .i64 0), .val (.slice none 0 0), .val (.slice none 0 0), .val (.slice none 0 0)]) rfl rfl rfl zr_27 st_27 rfl rfl) rfl ?_
  refine Ops.step rfl (s_storeB rfl rfl rfl rfl rfl rfl sz_27 rfl rfl) ?_
  refine Ops.v (g_assign rfl rfl rfl rfl) rfl ?_
  refine Ops.nil ?_
  refine Sq.n ?_
  refine W.conv (Conv.softbox 2 rfl rfl) ?_
  refine W.ret ?_
  refine Sq.r ?_
  cases h
  exact Fin.r rfl (.cons (.agg _ _ _ _ (cDrum noDrum) rfl rfl ag_27 sz_27) (.cons (.tmp _ _ rfl) .nil)) rfl
 ·have h := bif_f h hc
  refine W.skip ?_
  refine Sq.n ?_
  obtain ⟨rr, er, h⟩ := bind_some h
  refine W.seq ?_
  refine W.region ?_
  refine Ops.b (g_alloc rfl rfl rfl zr_27) rfl rfl ?_
  refine Ops.nil ?_
  refine Sq.n ?_
  refine W.seq ?_
  refine W.seq ?_
  cases rr with
  | error v =>
   obtain ⟨hru, h⟩ := bif_some8 h
   refine W.region ?_
   refine Ops.try_ (xs := [.tmp 1]) (xb := .tmp 4) (k := 4) (m := 6) ca_109 rfl rfl rfl rfl rfl rfl rfl rfl (st_of_109 s _ (c_110 _ _ er)) rfl rfl rfl rfl (.inr ⟨isText_of hru, ?_⟩)
   refine Ops.v (g_assign rfl rfl rfl rfl) rfl ?_
   refine Ops.nil ?_
   refine Sq.n ?_
   refine W.seq ?_
   refine W.region ?_
   refine Ops.v (g_move rfl rfl rfl rfl) rfl ?_
   refine Ops.v (g_neq rfl rfl rfl rfl rfl) rfl ?_
   refine Ops.nil ?_
   refine Sq.n ?_
   refine W.cond (b := true) rfl (fun hc => ?_) (fun hc => absurd hc (by decide))
   refine W.seq ?_
   refine W.region ?_
   refine Ops.v (g_build (cs := [.val (.slice none 0 0), .val (.int .i64 0), .val (.int .i64 0), .val (.slice none 0 0), .val (.slice none 0 0), .val (.slice none 0 0)]) rfl rfl rfl zr_27 st_27 rfl rfl) rfl ?_
   refine Ops.v (g_move rfl rfl rfl rfl) rfl ?_
   refine Ops.step rfl (s_storeB rfl rfl rfl rfl rfl rfl sz_27 rfl rfl) ?_
   refine Ops.v (g_assign rfl rfl rfl rfl) rfl ?_
   refine Ops.nil ?_
   refine Sq.n ?_
   refine W.conv (Conv.softbox 2 rfl rfl) ?_
   refine W.ret ?_
   refine Sq.r ?_
   cases h
   exact Fin.r rfl (.cons (.agg _ _ _ _ (cDrum noDrum) rfl rfl ag_27 sz_27) (.cons (.tmp _ _ rfl) .nil)) rfl
  | ok dd =>
   obtain ⟨b, eb, h⟩ := bind_some h
   refine W.region ?_
   refine Ops.try_ (xs := [.tmp 1]) (xb := .tmp 4) (k := 4) (m := 6) ca_109 rfl rfl rfl rfl rfl rfl rfl rfl (st_of_109 s _ (c_110 _ _ er)) rfl rfl rfl rfl ?_
   refine Ops.v (g_assign rfl rfl rfl rfl) rfl ?_
   refine Ops.nil ?_
   refine Sq.n ?_
   refine W.seq ?_
   refine W.region ?_
   refine Ops.v (g_move rfl rfl rfl rfl) rfl ?_
   refine Ops.v (g_neq rfl rfl rfl rfl rfl) rfl ?_
   refine Ops.nil ?_
   refine Sq.n ?_
   refine W.cond (b := false) rfl (fun hc => absurd hc (by decide)) (fun hc => ?_)
   refine W.skip ?_
   refine Sq.n ?_
   refine W.seq ?_
   refine W.seq ?_
   refine W.region ?_
   refine Ops.v (g_loadA rfl rfl rfl rfl rfl ag_27 sz_27 rfl rfl) rfl ?_
   refine Ops.v (g_call rfl rfl rfl ca_104 rfl (c_104 _ _ eb)) rfl ?_
   refine Ops.v (g_not rfl rfl rfl rfl) rfl ?_
   refine Ops.nil ?_
   refine Sq.n ?_
   refine W.cond (b := !b) rfl (fun hc => ?_) (fun hc => ?_)
   ·have h := bif_t h hc
    refine W.seq ?_
    refine W.region ?_
    refine Ops.v (g_build (cs := [.val (.slice none 0 0), .val (.int .i64 0), .val (.int .i64 0), .val (.slice none 0 0), .val (.slice none 0 0), .val (.slice none 0 0)]) rfl rfl rfl zr_27 st_27 rfl rfl) rfl ?_
    refine Ops.step rfl (s_storeB rfl rfl rfl rfl rfl rfl sz_27 rfl rfl) ?_
    refine Ops.v (g_assign rfl rfl rfl rfl) rfl ?_
    refine Ops.nil ?_
    refine Sq.n ?_
    refine W.conv (Conv.softbox 2 rfl rfl) ?_
    refine W.ret ?_
    refine Sq.r ?_
    cases h
    exact Fin.r rfl (.cons (.agg _ _ _ _ (cDrum noDrum) rfl rfl ag_27 sz_27) (.cons (.tmp _ _ rfl) .nil)) rfl
   ·have h := bif_f h hc
    refine W.skip ?_
    refine Sq.n ?_
    refine W.seq ?_
    refine W.region ?_
    refine Ops.v (g_loadA rfl rfl rfl rfl rfl ag_27 sz_27 rfl rfl) rfl ?_
    refine Ops.step rfl (s_storeB rfl rfl rfl rfl rfl rfl sz_27 rfl rfl) ?_
    refine Ops.v (g_assign rfl rfl rfl rfl) rfl ?_
    refine Ops.nil ?_
    refine Sq.n ?_
    refine W.ret ?_
    cases h
    exact Fin.r rfl (.cons (.agg _ _ _ _ (cDrum dd) rfl rfl ag_27 sz_27) (.cons (.tmp _ _ rfl) .nil)) rfl
end Go.Proofs.YtohmhlkdgfcaeaaGreatDoor
namespace Go.Proofs.YtohmhlkdgfcaeaaGreatDoor
open Go Go.RowKit
section
variable {X : Cx} {ops : List Oper}
theorem draw_raw {E E' : Env} {id m : Nat} {L : List (Sl × Ef2)} {Q0 : Exit → Act → World → Prop} (hm : X.P.follows .mixedOrders = true) (hp : PreR X (fun _ _ => False) ops.toArray (ops.take m) E L E') (hc : okDraw2 ops m E L = true)
  {g0 : Ghost} {F0 : Foot} {a0 : Act} {w0 : World} (hr0 : Rel X.w0 X.F0 X.nt g0 F0 E a0 w0) (hq : ∀ g F a w, Rel X.w0 X.F0 X.nt g F E' a w → wpList X.P ops.toArray Q0 (ops.drop m) a w) : (Code.region id ops.toArray true).wp X.P Q0 a0 w0 := by
 refine wp_region_any hm ?_
 simp only [okDraw2, Bool.and_eq_true] at hc
 obtain ⟨hB, hL, hP, hlen, hal⟩ := hc
 have hlen := Nat.eq_of_beq_eq_true hlen
 have hpl := hp.length
 have hml : m ≤ ops.length := by rw [hlen, List.length_take] at hpl; omega
 have key : ∀ (r : Nat) (listed : Array Bool) (b : Nat → Bool) (g : Ghost) (F : Foot) (a : Act) (w : World), listed.size = ops.length → (∀ j, j < ops.length → listed.getD j true = b j) → (∀ j, m ≤ j → b j = false) → Cl ops b → ((List.range m).filter fun j => !b j).length = r →
   Rel X.w0 X.F0 X.nt g F (envAt2 b L 0 E) a w → wpAny X.P .any ops.toArray Q0 (ops.length - m + r) listed a w := by
  intro r
  induction r with
  | zero =>
   intro listed b g F a w hs hb hbm hcl hr hrel
   have hall : ∀ j, j < m → b j = true := fun j hj => by
    cases hbj : b j with
    | true => rfl
    | false =>
     have : j ∈ (List.range m).filter fun j => !b j := List.mem_filter.2 ⟨List.mem_range.2 hj, by simp [hbj]⟩
     rw [List.eq_nil_of_length_eq_zero hr] at this
     cases this
   have he : envAt2 b L 0 E = E' := hp.all_ 0 b (fun j hj => by rw [Nat.zero_add]; exact hall j (by omega))
   rw [he] at hrel
   refine wp_post hB hP (ops.length - m) m listed a w (by omega) (Nat.le_refl _) hs (fun j hj => ?_) (hq g F a w hrel)
   rw [hb j hj]
   constructor
   ·intro h
    rcases Nat.lt_or_ge j m with hlt | hge
    ·exact hlt
    ·rw [hbm j hge] at h; cases h
   ·exact hall j
  | succ r ih =>
   intro listed b g F a w hs hb hbm hcl hr hrel
   have hgd : ∀ j, j < ops.length → listed.getD j false = b j := fun j hj => by
    rw [← hb j hj]
    simp [Array.getD_eq_getD_getElem?, Array.getElem?_eq_getElem (show j < listed.size by omega)]
   refine ⟨fun he => ?_, fun i hi => ?_⟩
   ·exfalso
    have hex : ∃ i, i < m ∧ b i = false := by
     cases hf : (List.range m).filter (fun j => !b j) with
     | nil => rw [hf] at hr; simp at hr
     | cons x y =>
      have hx : x ∈ (List.range m).filter (fun j => !b j) := by rw [hf]; exact List.mem_cons_self
      rw [List.mem_filter, List.mem_range] at hx
      exact ⟨x, hx.1, by simpa using hx.2⟩
    have hmin : ∀ k, (∃ i, i ≤ k ∧ i < m ∧ b i = false) → ∃ i, i < m ∧ b i = false ∧ ∀ j, j < i → b j = true := by
     intro k
     induction k with
     | zero =>
      rintro ⟨i, hi, h1, h2⟩
      exact ⟨i, h1, h2, fun j hj => by omega⟩
     | succ k ihk =>
      rintro ⟨i, hi, h1, h2⟩
      by_cases hlow : ∃ j, j ≤ k ∧ j < m ∧ b j = false
      ·exact ihk hlow
      ·refine ⟨i, h1, h2, fun j hj => ?_⟩
       cases hbj : b j with
       | true => rfl
       | false => exact absurd ⟨j, by omega, by omega, hbj⟩ hlow
    obtain ⟨i0, h1, h2⟩ := hex
    obtain ⟨i, him, hbi, hlow⟩ := hmin i0 ⟨i0, Nat.le_refl _, h1, h2⟩
    have hoi : ops[i]? = some ops[i] := List.getElem?_eq_getElem (by omega)
    have : i ∈ Region.ready .any ops.toArray listed := ready_iff.2 ⟨_, hoi, by rw [hb i (by omega)]; exact hbi, fun j hj => by
     have := (okB_lt hB hoi).1 j hj
     rw [hgd j (by omega)]
     exact hlow j this⟩
    rw [he] at this
    cases this
   ·obtain ⟨o, ho, h2, h3⟩ := ready_iff.1 hi
    have hil := (List.getElem?_eq_some_iff.1 ho).1
    rw [hb i hil] at h2
    have hneed : ∀ j ∈ need o, b j = true := fun j hj => by
     have := (okB_lt hB ho).1 j hj
     rw [← hgd j (by omega)]
     exact h3 j hj
    have hbits : ∀ j, ((predL ops).getD i 0).testBit j = true → b j = true := fun j hj => by
     obtain ⟨n, hn, h4⟩ := (okB_lt hB ho).2 j hj
     have hlt := (okB_lt hB ho).1 n hn
     rcases h4 with rfl | h4
     ·exact hneed _ hn
     ·exact hcl.bits hB n n (Nat.le_refl _) (by omega) (hneed n hn) j h4
    have him : i < m := by
     rcases Nat.lt_or_ge i m with hlt | hge
     ·exact hlt
     ·exfalso
      have h4 := List.all_eq_true.1 hP i (List.mem_range.2 hil)
      rw [ho] at h4
      have e1 : Nat.blt i m = false := by
       cases hbb : Nat.blt i m with
       | false => rfl
       | true => have := Nat.le_of_ble_eq_true hbb; omega
      simp only [e1, Bool.false_or] at h4
      by_cases him : i = m
      ·subst him
       simp only [beq_self_true, cond_true, List.all_eq_true, List.mem_range] at h4
       have : (List.range i).filter (fun j => !b j) = [] := List.filter_eq_nil_iff.2 (fun j hj => by
        rw [List.mem_range] at hj
        rw [hbits j (h4 j hj)]
        simp)
       rw [this] at hr
       simp at hr
      ·rw [beq_false_of_ne him, cond_false] at h4
       have := hneed _ (List.elem_iff.1 h4)
       rw [hbm _ (by omega)] at this
       cases this
    obtain ⟨p, hpi⟩ : ∃ p, L[i]? = some p := ⟨L[i], List.getElem?_eq_getElem (by omega)⟩
    have hoT : (ops.take m)[i]? = some o := by rw [List.getElem?_take, if_pos him]; exact ho
    obtain ⟨hG, hFr⟩ := hp.get i o p hoT hpi 0
    have hord : ∀ t, t ∈ keysOf2 p → ∀ j q, L[j]? = some q → t ∈ q.2.ks → j ≠ i → (j < i → b j = true) ∧ (i < j → b j = false) := by
     intro t ht j q hj hqd hji
     have h5 := List.all_eq_true.1 hL i (List.mem_range.2 (by omega))
     have h6 := List.all_eq_true.1 h5 j (List.mem_range.2 (List.getElem?_eq_some_iff.1 hj).1)
     rw [hpi, hj] at h6
     simp only [beq_false_of_ne (Ne.symm hji), Bool.false_or, Bool.or_eq_true] at h6
     have h6 := h6.resolve_left (fun h7 => by
      have := List.all_eq_true.1 h7 t hqd
      rw [List.elem_iff.2 ht] at this
      simp at this)
     constructor
     ·intro hlt
      have e1 : Nat.blt j i = true := Nat.ble_eq_true_of_le hlt
      rw [e1, cond_true] at h6
      exact hbits j h6
     ·intro hlt
      have e1 : Nat.blt j i = false := by
       cases hbb : Nat.blt j i with
       | false => rfl
       | true => have := Nat.le_of_ble_eq_true hbb; omega
      rw [e1, cond_false] at h6
      cases hbj : b j with
      | false => rfl
      | true =>
       have hjl : j < L.length := (List.getElem?_eq_some_iff.1 hj).1
       have := hcl.bits hB j j (Nat.le_refl _) (by omega) hbj i h6
       rw [h2] at this
       cases this
    have hat : ∀ t, t ∈ keysOf2 p → At t (envAt2 b L 0 E) (envAt2 (fun j => Nat.blt j (0 + i)) L 0 E) := fun t ht => envAt2_at L 0 E E (At.refl _ _) (fun j q hj hqd => by
     simp only [Nat.zero_add]
     by_cases hji : j = i
     ·subst hji
      rw [h2]
      cases hbb : Nat.blt j j with
      | false => rfl
      | true => have := Nat.le_of_ble_eq_true hbb; omega
     ·obtain ⟨k1, k2⟩ := hord t ht j q hj hqd hji
      rcases Nat.lt_or_ge j i with hlt | hge
      ·rw [k1 hlt]; exact (Nat.ble_eq_true_of_le hlt).symm
      ·rw [k2 (by omega)]
       cases hbb : Nat.blt j i with
       | false => rfl
       | true => have := Nat.le_of_ble_eq_true hbb; omega)
    have hag : p.1.agree (envAt2 (fun j => Nat.blt j (0 + i)) L 0 E) (envAt2 b L 0 E) :=
     ⟨fun t ht => (hat t (by simp [keysOf2, ht])).1, fun t ht => (hat t (by simp [keysOf2, ht])).2.1, fun t ht => (hat t (by simp [keysOf2, ht])).2.2⟩
    have hfr : p.2.fresh (envAt2 b L 0 E) := by
     refine ⟨fun k hk => ?_, fun k hk => ?_, alOk.get hal (List.mem_of_getElem? hpi) b 0⟩
     ·rw [(hat k (by simp [keysOf2, Ef2.ks, hk])).2.1]; exact hFr.fb k hk
     ·rw [(hat k (by simp [keysOf2, Ef2.ks, hk])).2.2]; exact hFr.fr k hk
    let b' : Nat → Bool := fun j => if j = i then true else b j
    have hnext : ∀ g' F' a' w', Rel X.w0 X.F0 X.nt g' F' ((envAt2 b L 0 E).ef2 p.2) a' w' → wpAny X.P .any ops.toArray Q0 (ops.length - m + r) (listed.setIfInBounds i true) a' w' := by
     intro g' F' a' w' hr'
     have hup : ∀ t, At t ((envAt2 b L 0 E).ef2 p.2) (envAt2 b' L 0 E) := fun t => envAt2_up i L 0 i E p hpi (by omega) h2 (if_pos rfl) (fun j hj => if_neg hj) (fun hpd j q hj hqd hlt => by
      rw [Nat.zero_add]
      exact (hord t (by simp [keysOf2, hpd]) j q hj hqd (by omega)).2 hlt)
     refine ih (listed.setIfInBounds i true) b' g' F' a' w' (by simpa using hs) (fun j hj => ?_) (fun j hj => ?_) ?_ ?_ (hr'.congr (fun t => (hup t).1.symm) (fun t => (hup t).2.1.symm) (fun t => (hup t).2.2.symm))
     ·by_cases hji : i = j
      ·subst hji
       simp [b', Array.getD_eq_getD_getElem?, show i < listed.size by omega]
      ·rw [getD_set_ne true hji, hb j hj]
       show b j = if j = i then true else b j
       rw [if_neg (Ne.symm hji)]
     ·simp only [b']
      rw [if_neg (by omega)]
      exact hbm j hj
     ·intro d o' ho' hbd j hj
      simp only [b'] at hbd ⊢
      by_cases hji : j = i
      ·rw [if_pos hji]
      ·rw [if_neg hji]
       by_cases hdi : d = i
       ·subst hdi
        rw [ho] at ho'
        cases ho'
        exact hneed j hj
       ·rw [if_neg hdi] at hbd
        exact hcl d o' ho' hbd j hj
     ·have : ∀ (l : List Nat), l.Nodup → i ∈ l → (l.filter fun j => !b' j).length + 1 = (l.filter fun j => !b j).length := by
       intro l
       induction l with
       | nil => intro _ h; cases h
       | cons x y ihl =>
        intro hn hx
        rw [List.nodup_cons] at hn
        rcases List.mem_cons.1 hx with rfl | hx
        ·have h1 : (y.filter fun j => !b' j) = y.filter fun j => !b j := List.filter_congr (fun j hj => by
          simp only [b']
          rw [if_neg (fun e => hn.1 (by rw [← e]; exact hj))])
         rw [List.filter_cons, List.filter_cons]
         have e1 : b' i = true := if_pos rfl
         simp only [e1, h2, Bool.not_true, Bool.not_false, if_true, Bool.false_eq_true, if_false, List.length_cons, h1]
        ·have hxi : x ≠ i := fun e => hn.1 (e ▸ hx)
         have h1 := ihl hn.2 hx
         rw [List.filter_cons, List.filter_cons]
         have e : b' x = b x := if_neg hxi
         rw [e]
         cases b x
         ·simp only [Bool.not_false, if_true, List.length_cons]; omega
         ·simpa using h1
      have := this (List.range m) List.nodup_range (List.mem_range.2 him)
      omega
    have hstep := hG _ hag hfr g F a w (wpAny X.P .any ops.toArray Q0 (ops.length - m + r) (listed.setIfInBounds i true)) hrel hnext
    rw [wpOp_eq ho]
    split at hstep
    ·rename_i hw; rw [if_pos hw]; exact .inl (upon_mono hstep (fun _ _ h => h) (fun _ _ _ h => h) (fun ch w hq => by obtain ⟨_, _, _, _, hq⟩ := hq; exact hq.elim) (by rintro ⟨_, _, _, _, _, _, hq⟩; exact hq))
    ·rename_i hw; rw [if_neg hw]; exact hstep
 have hfull : ((List.range m).filter fun j => !(fun _ : Nat => false) j).length = m := by
  have h : (List.range m).filter (fun j => !(fun _ : Nat => false) j) = List.range m := List.filter_eq_self.2 (fun _ _ => rfl)
  rw [h, List.length_range]
 have hstart := key m (Array.replicate ops.length false) (fun _ => false) g0 F0 a0 w0.drew (by simp) (fun j hj => by simp [Array.getD_eq_getD_getElem?, hj]) (fun _ _ => rfl) (fun _ _ _ h => by cases h) hfull (by
  rw [envAt2_none (fun _ => false) L 0 E (fun _ _ => rfl)]
  exact hr0.drew)
 have e1 : ops.length - m + m = ops.toArray.size := by simp; omega
 rw [e1] at hstart
 simpa using hstart
end
section
variable {P : Program} {ops : Array Oper} {rest : List Oper} {o : Oper} {a : Act} {w : World} {Q : Exit → Act → World → Prop} {d : Nat}
theorem wpList_clo {x y : Operand} {v : Value} {f : FuncId} {fs caps : Array Value} {tys : Array TypeId} {R : Ending → World → Prop} (hg : o.guard = none) (ho : o.op = .call { callee := .value x, args := #[y], argTypes := tys }) (hx : a.eval x = .func (.func f) fs caps) (hy : a.eval y = v) (hd : o.dst = some d) (hc : Callable P f)
  (h : Calls P f (fs ++ #[v] ++ caps) w R) (hR : ∀ e w', R e w' → ∃ v, e = .returned v) (hk : ∀ v w', R (.returned v) w' → wpList P ops Q rest (a.put (some d) v) w') : wpList P ops Q (o :: rest) a w := by
 have hw : Region.wanted o (yielded ops a.tmps) = true := by simp [Region.wanted, hg]
 simp only [wpList, hw, if_true]
 refine .inl ?_
 have hrun : (execOp a.eval o).run P w = .ok (.enter f (fs ++ #[v] ++ caps)) w := by
  simp only [execOp, ho, resolve, hx, Deferred.ofValue, Sem.run_bind, Sem.run_pure, Result.andThen_ok, invoke]
  simp [hy, run_enter hc]
 show o.upon P a _ Q ((execOp a.eval o).run P w)
 rw [hrun]
 simp only [Oper.upon, hd]
 refine h.mono ?_
 intro e w' he
 obtain ⟨v', rfl⟩ := hR e w' he
 exact hk v' w' he
end
theorem W.raw {X : Cx} {c : Code} {E : Env} {Q : Exit → Env → Prop} (h : ∀ g F a w, Rel X.w0 X.F0 X.nt g F E a w → c.wp X.P (QQ X Q) a w) : W X c E Q := h
theorem W.go {X : Cx} {c : Code} {E : Env} {Q : Exit → Env → Prop} (h : W X c E Q) : ∀ g F a w, Rel X.w0 X.F0 X.nt g F E a w → c.wp X.P (QQ X Q) a w := h
end Go.Proofs.YtohmhlkdgfcaeaaGreatDoor
