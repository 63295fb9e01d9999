/- What is allowed, by the reference. Conditions: order, sizes that fit a machine. The law of Allowed: for every graph, state and event. No conditions but the sizes that an input has. The types of an entry and of a list of entries, as the arguments are read. No conditions. The types of a graph and of an event, as the arguments are read. No conditions. Sorting places by depth: one order, one sorted list; changing places. No program in sight. Sorting in place by blocks: what stands after each stage. No program in sight. Depths of events: who comes earlier. No program in sight. Sorting in place, stable: changing places, turning, insertion. Conditions: lengths that fit a machine. Sorting in place, stable: insertion. Conditions: lengths that fit a machine. Sorting in place, stable: merging. Conditions: lengths that fit a machine. (under way) Sorting in place, stable: merging, the general case. Conditions: lengths that fit a machine. Sorting in place, stable: merging, all cases. Conditions: lengths that fit a machine. Sorting in place, stable. Conditions: lengths that fit a machine. The order of a graph's events: by depth, then by place. Conditions: lengths that fit a machine. The order of a graph's events, as the reference reckons it: depth by depth. Conditions: lengths that fit a machine. Live events: made, marked, held against marks. No conditions but lengths and bounds of numbers. One event of a graph, handed back as a copy. No conditions but lengths. The law of EventAt: for every -/
import Derived.WalkKit
import Derived.ProofKit
import Derived.OpenShut
import Derived.ShutString
import Derived.ChangeOld
import Derived.Below
import Derived.SizedLaws
import Derived.Shelf.SlSortCmp.NoneTotal
import Derived.Shelf.SlLaysF0
import Derived.Shelf.SlLaysM
import Derived.Shelf.SortM.Plain
import Derived.Shelf.SortM.SortNone
import Derived.Test.YtdldgbkdcpdbeaaGreatQ4
set_option linter.unusedSimpArgs false
set_option linter.unusedVariables false
set_option maxRecDepth 10000
section
namespace Go.Proofs.YtdldgbkdcpdbeaaGreat
open Go.Pm
open Go.Gm (Ev Gr)
set_option maxHeartbeats 1000000
structure LS (g : Gr) (s : List Ent) : Prop extends GS g s where
 hz : ∀ k q, (idS s k q = 0 ∧ curE g s k q = none) ∨ (0 < idS s k q ∧ Gm.hasId g.events (idS s k q) = true)
theorem LS.dec {g : Gr} {s : List Ent} (h : LS g s) (k q : Int) : decide (idS s k q > 0) = (curE g s k q).isSome := by
 unfold curE
 rw [atE_has]
 rcases h.hz k q with ⟨h1, h2⟩ | ⟨h1, h2⟩
 · unfold curE at h2
   rw [← atE_has, h2, h1]; rfl
 · rw [h2]; simpa using h1
theorem LS.eqz {g : Gr} {s : List Ent} (h : LS g s) (k q : Int) : (idS s k q == 0) = !(curE g s k q).isSome := by
 rw [← h.dec]
 rcases h.hz k q with ⟨h1, _⟩ | ⟨h1, _⟩
 · rw [h1]; rfl
 · have : ¬ (idS s k q = 0) := by omega
   rw [show (idS s k q == 0) = false by simpa using this]
   simp [h1]
section
variable {P : Program} [Is P]
theorem idS_go (s : List Ent) (kind key : Int) (k : Nat) : idS (s.drop k) kind key = match s[k]? with
 | none => 0
 | some x => if ((x.kind == kind) && (x.key == key)) = true then x.id else idS (s.drop (k + 1)) kind key := by
 cases h : s[k]? with
 | none => rw [List.drop_eq_nil_of_le (by simpa using h)]; rfl
 | some x =>
   rw [drop_cons h]
   unfold idS
   rw [List.find?_cons]
   unfold isK
   cases hb : ((x.kind == kind) && (x.key == key)) <;> simp [hb]
theorem c_l04At (s : List Ent) (kind key : Int) (hx : s.length < 2 ^ 62) : Con P 106 [.sl 3 (s.map encEnt), .int .i64 kind, .int .i64 key] (.int .i64 (idS s kind key)) := by
 refine Con.of (n := 35) (rs := [.tmp 6]) (Is.fn Tryz.func106) rfl (Is.call Tryz.call106) Tryz.results106 Tryz.ntmps106 trivial ?_
 simp only [method_specs_simp, seval]
 refine SW.while (A := Nat) (fun k => ⟨pad 35 [.sl 3 (s.map encEnt), .int .i64 kind, .int .i64 key, .junk, .junk, .junk, .int .i64 0, .int .i64 k], [], []⟩) (fun k => s.length - k)
   (fun k => k ≤ s.length ∧ idS s kind key = idS (s.drop k) kind key) 0 [] ⟨Nat.zero_le _, rfl⟩ ?_ ?_
 · simp only [mvcgen_simp, method_specs_simp, seval]
 · rintro k ⟨hk, hr⟩
   rw [hr, idS_go]
   refine CW.sound ?_
   simp only [method_specs_simp, seval]
   refine gB_split (fun h => ?_) (fun h => ?_)
   · simp only [decide_eq_true_eq, Int.ofNat_lt] at h
     obtain ⟨x, hxk⟩ : ∃ x, s[k]? = some x := ⟨_, List.getElem?_eq_getElem h⟩
     simp only [List.getElem?_map, hxk, encEnt, method_specs_simp, seval]
     refine ⟨by omega, by omega, ?_⟩
     cases k1 : (x.kind == kind)
     · simp only [method_specs_simp, seval]
       rw [wrap_id (by omega) (by omega)]
       refine Again.mk (k + 1) [] ⟨h, ?_⟩ (Nat.sub_lt_sub_left h (Nat.lt_succ_self _)) ?_
       · simp [k1]
       · simp only [mvcgen_simp, method_specs_simp, seval]
     · simp only [method_specs_simp, seval]
       refine ⟨by omega, by omega, ?_⟩
       cases k2 : (x.key == key)
       · simp only [method_specs_simp, seval]
         rw [wrap_id (by omega) (by omega)]
         refine Again.mk (k + 1) [] ⟨h, ?_⟩ (Nat.sub_lt_sub_left h (Nat.lt_succ_self _)) ?_
         · simp [k1, k2]
         · simp only [mvcgen_simp, method_specs_simp, seval]
       · simp only [method_specs_simp, seval]
         simp
         omega
   · simp only [decide_eq_false_iff_not, Bool.not_true, Int.ofNat_lt] at h
     rw [List.getElem?_eq_none (by omega)]
theorem entOf_no {g : Gr} {x : Ent} (h : Gm.hasId g.events x.id = false) : entOf g x = false := by
 unfold entOf; rw [atE_has, h]; rfl
theorem entOf_at {g : Gr} {x : Ent} {e : Ev} (h : Gm.hasId g.events x.id = true) (he : g.events[Gm.fidE g.events x.id]? = some e) : entOf g x = ((e.kind == x.kind) && (e.key == x.key)) := by
 unfold entOf; rw [atE_has, h, ← fid_at h, he]; rfl
theorem c_l05State (g : Gr) (s : List Ent) (hg : GrOK g) (hx : s.length * 24 ≤ 2 ^ 47) : Con P 49 [.agg (encGr g), .sl 3 (s.map encEnt)] (.bool (stateE g s)) := by
 have hg1 := hg.1.1
 refine Con.of (n := 54) (rs := [.tmp 4]) (Is.fn Tryz.func49) rfl (Is.call Tryz.call49) Tryz.results49 Tryz.ntmps49 trivial ?_
 simp only [method_specs_simp, seval, encGr, bne_not]
 refine clY.con (c115 s (by omega)) (by simp only [method_specs_simp, encGr, bne_not]) ?_
 simp only [method_specs_simp, seval, encGr, bne_not]
 unfold stateE stateOk
 rw [okRow_f, Bool.and_comm (okRow (entI 1) s)]
 cases k0 : (decide (s.length ≤ 400) && okRow (entI 1) s)
 · simp only [method_specs_simp, seval, encGr, bne_not]
   try simp
 · simp only [method_specs_simp, seval, encGr, bne_not]
   refine SW.while (A := Nat) (fun k => ⟨pad 54 [.junk, .sl 3 (s.map encEnt), .ptr 0 0, .junk, .bool false, .int .i64 k], [.box true (encGr g)], []⟩) (fun k => s.length - k)
     (fun k => k ≤ s.length ∧ s.all (entOf g) = (s.drop k).all (entOf g)) 0 [0] ⟨Nat.zero_le _, rfl⟩ ?_ ?_
   · simp only [mvcgen_simp, method_specs_simp, seval, encGr, bne_not]
   · rintro k ⟨hk, hr⟩
     rw [hr]
     refine CW.sound ?_
     simp only [method_specs_simp, seval, encGr, bne_not]
     refine gB_split (fun h => ?_) (fun h => ?_)
     · simp only [decide_eq_true_eq, Int.ofNat_lt] at h
       obtain ⟨x, hxk⟩ : ∃ x, s[k]? = some x := ⟨_, List.getElem?_eq_getElem h⟩
       simp only [List.getElem?_map, hxk, encEnt, method_specs_simp, seval]
       refine ⟨by kernel_rfl, by omega, by omega, ?_⟩
       refine clY.con (c_l03At g.events x.id (by omega)) (by simp only [method_specs_simp, encGr, bne_not]) ?_
       simp only [method_specs_simp, seval, encGr, bne_not, atI_lt]
       rw [drop_cons hxk, List.all_cons]
       cases k1 : Gm.hasId g.events x.id
       · rw [entOf_no k1]
         simp only [method_specs_simp, seval, encGr, bne_not, k1]
         exact ⟨by kernel_rfl, rfl⟩
       · have h3 := Gm.fid_lt k1
         obtain ⟨e, h4, _⟩ := Gm.fid_get k1
         rw [entOf_at k1 h4, atI_yes k1]
         simp only [k1, h4, hxk, encEv, encEnt, Option.getD_some, method_specs_simp, seval]
         refine ⟨by kernel_rfl, by omega, by omega, by omega, by omega, ?_⟩
         cases k2 : (e.kind == x.kind)
         · simp only [method_specs_simp, seval, encGr, bne_not, k2]
           try simp
         · simp only [method_specs_simp, seval, encGr, bne_not, k2]
           refine ⟨by omega, by omega, by omega, by omega, ?_⟩
           cases k3 : (e.key == x.key)
           · simp only [method_specs_simp, seval, encGr, bne_not, k3]
             try simp
           · simp only [method_specs_simp, seval, encGr, bne_not, k3]
             rw [wrap_id (by omega) (by omega)]
             refine Again.mk (k + 1) [0] ⟨h, ?_⟩ (Nat.sub_lt_sub_left h (Nat.lt_succ_self _)) ?_
             · simp [k2, k3]
             · simp only [mvcgen_simp, method_specs_simp, seval, encGr, bne_not]
     · simp only [decide_eq_false_iff_not, Bool.not_true, Int.ofNat_lt] at h
       rw [List.drop_eq_nil_of_le (by omega)]
       try simp
theorem c_l05Of (g : Gr) (s : List Ent) (kind key : Int) (h : LS g s) : Con P 149 [.agg (encGr g), .sl 3 (s.map encEnt), .int .i64 kind, .int .i64 key] (.agg (encEv ((curE g s kind key).getD zE))) := by
 have h1 := h.hx
 have h2 := h.sx
 have h3 := h.eqz kind key
 cases k1 : (curE g s kind key).isSome with
 | false =>
   have h4 : (curE g s kind key) = none := by simpa using k1
   rw [k1] at h3
   rw [h4]
   refine Con.res (r := .agg zEv) ?_ (.agg zEv_le) (encEv_ref1 _ _)
   refine Con.of (n := 25) (rs := [.cell 8 92]) (Is.fn Tryz.func149) rfl (Is.call Tryz.call149) Tryz.results149 Tryz.ntmps149 (by simp only [zEv, method_specs_simp]) ?_
   simp only [method_specs_simp, seval, encGr]
   refine clY.con (c_l04At s kind key (by omega)) (by simp only [method_specs_simp, encGr]) ?_
   simp only [method_specs_simp, seval, encGr, h3, Bool.not_false]
   rfl
 | true =>
   rw [k1] at h3
   have k2 : Gm.hasId g.events (idS s kind key) = true := by rw [← atE_has]; exact k1
   obtain ⟨e, h4, _⟩ := Gm.fid_get k2
   have h5 := Gm.fid_lt k2
   have h6 := fid_at k2
   rw [h4] at h6
   have h7 : curE g s kind key = some e := h6.symm
   rw [h7]
   refine Con.of (n := 25) (rs := [.cell 8 92]) (Is.fn Tryz.func149) rfl (Is.call Tryz.call149) Tryz.results149 Tryz.ntmps149 (by simp only [method_specs_simp]) ?_
   simp only [method_specs_simp, seval, encGr]
   refine clY.con (c_l04At s kind key (by omega)) (by simp only [method_specs_simp, encGr]) ?_
   simp only [method_specs_simp, seval, encGr, h3, Bool.not_true]
   refine ⟨by kernel_rfl, ?_⟩
   refine clY.con (c_l03At g.events (idS s kind key) (by omega)) (by simp only [method_specs_simp, encGr]) ?_
   simp only [method_specs_simp, seval, encGr, atI_yes k2]
   refine ⟨by omega, by omega, ?_⟩
   simp only [h4, encEv, Option.getD_some, method_specs_simp, seval]
theorem c_l05Member (g : Gr) (s : List Ent) (u : Int) (h : LS g s) : Con P 107 [.agg (encGr g), .sl 3 (s.map encEnt), .int .i64 u] (.int .i64 (memberE g s u)) := by
 have h1 : List.take 3 (encGr g) = encGr g := rfl
 refine Con.of (n := 12) (rs := [.tmp 6]) (Is.fn Tryz.func107) rfl (Is.call Tryz.call107) Tryz.results107 Tryz.ntmps107 trivial ?_
 simp only [method_specs_simp, seval]
 refine ⟨by simp [encGr], ?_⟩
 rw [h1]
 refine clY.con (c_l05Of g s 2 u h) (by simp only [method_specs_simp]) ?_
 simp only [method_specs_simp, seval, encEv]
 rfl
theorem c_l05Level (g : Gr) (s : List Ent) (u : Int) (h : LS g s) (ho : (curE g s 1 0).isSome = true) : Con P 108 [.agg (encGr g), .sl 3 (s.map encEnt), .int .i64 u] (.int .i64 (levelE g s u)) := by
 have h1 : List.take 3 (encGr g) = encGr g := rfl
 have h2 := h.sx
 refine Con.of (n := 22) (rs := [.tmp 6]) (Is.fn Tryz.func108) rfl (Is.call Tryz.call108) Tryz.results108 Tryz.ntmps108 trivial ?_
 simp only [method_specs_simp, seval]
 refine clY.con (c_l04At s 3 u (by omega)) (by simp only [method_specs_simp]) ?_
 simp only [method_specs_simp, seval, h.dec 3 u]
 unfold levelE
 cases g1 : (curE g s 3 u).isSome
 · simp only [method_specs_simp, seval]
   refine ⟨by simp [encGr], ?_⟩
   rw [h1]
   refine clY.con (c_l05Of g s 1 0 h) (by simp only [method_specs_simp]) ?_
   simp only [method_specs_simp, seval, encEv]
   rw [ho, Bool.true_and]
   cases g2 : (((curE g s 1 0).getD zE).author == u)
   · simp only [method_specs_simp, seval, g2]
     try simp
   · simp only [method_specs_simp, seval, g2]
     try simp
 · simp only [method_specs_simp, seval]
   refine ⟨by simp [encGr], ?_⟩
   rw [h1]
   refine clY.con (c_l05Of g s 3 u h) (by simp only [method_specs_simp]) ?_
   simp only [method_specs_simp, seval, encEv]
   try simp
theorem c_l05If (b : Bool) : Con P 111 [.bool b] (.int .i64 (den b)) := by
 refine Con.of (n := 4) (rs := [.tmp 2]) (Is.fn Tryz.func111) rfl (Is.call Tryz.call111) Tryz.results111 Tryz.ntmps111 trivial ?_
 simp only [method_specs_simp, seval]
 cases b
 · simp only [method_specs_simp, seval]
   rfl
 · simp only [method_specs_simp, seval]
   rfl
theorem c_l05Own (g : Gr) (s : List Ent) (e : Ev) (m : Int) (h : LS g s) : Con P 109 [.agg (encGr g), .sl 3 (s.map encEnt), .agg (encEv e), .int .i64 m] (.int .i64 (selfE g s e m)) := by
 have h1 : List.take 3 (encGr g) = encGr g := rfl
 have h2 : 3 ≤ (encGr g).length := Nat.le_refl 3
 unfold selfE
 refine Con.of (n := 51) (rs := [.tmp 8]) (Is.fn Tryz.func109) rfl (Is.call Tryz.call109) Tryz.results109 Tryz.ntmps109 trivial ?_
 simp only [method_specs_simp, seval, encEv, bne_not]
 cases k1 : (m == 1) <;> cases k2 : (m == 4)
 all_goals
   simp only [method_specs_simp, seval, encEv, bne_not, k1, k2]
   cases n1 : (e.n == 1)
   · simp only [method_specs_simp, seval, encEv, bne_not]
     cases n2 : (e.n == 2)
     · simp only [method_specs_simp, seval, encEv, bne_not]
       try simp
     · simp only [method_specs_simp, seval, encEv, bne_not]
       refine clY.con (c_l05If _) (by simp only [method_specs_simp, encEv, bne_not]) ?_
       simp only [method_specs_simp, seval, encEv, bne_not]
       try simp
   · simp only [method_specs_simp, seval, encEv, bne_not]
     refine ⟨by kernel_rfl, h2, ?_⟩
     rw [h1]
     refine clY.con (c_l05Of g s 5 0 h) (by simp only [method_specs_simp, encEv, bne_not]) ?_
     simp only [method_specs_simp, seval, encEv, bne_not]
     cases k4 : (((curE g s 5 0).getD zE).n == 1)
     · simp only [method_specs_simp, seval, encEv, bne_not, k4]
       refine ⟨h2, ?_⟩
       rw [h1]
       refine clY.con (c_l05Of g s 1 0 h) (by simp only [method_specs_simp, encEv, bne_not]) ?_
       simp only [method_specs_simp, seval, encEv, bne_not]
       cases k3 : (m == 3) <;> cases k5 : (((curE g s 1 0).getD zE).author == e.author)
       all_goals
         try simp only [k3, k5, method_specs_simp, seval]
         refine clY.con (c_l05If _) (by simp only [method_specs_simp]) ?_
         simp only [method_specs_simp, seval, encEv, bne_not]
         try simp
     · simp only [method_specs_simp, seval, encEv, bne_not, k4]
       cases k3 : (m == 3)
       all_goals
         try simp only [k3, method_specs_simp, seval]
         refine clY.con (c_l05If _) (by simp only [method_specs_simp]) ?_
         simp only [method_specs_simp, seval, encEv, bne_not]
         try simp
theorem c_l05Other (g : Gr) (s : List Ent) (e : Ev) (p : Int) (h : LS g s) (ho : (curE g s 1 0).isSome = true) : Con P 110 [.agg (encGr g), .sl 3 (s.map encEnt), .agg (encEv e), .int .i64 p] (.int .i64 (otherE g s e p)) := by
 have h1 : List.take 3 (encGr g) = encGr g := rfl
 have h2 : 3 ≤ (encGr g).length := Nat.le_refl 3
 unfold otherE
 refine Con.of (n := 64) (rs := [.tmp 8]) (Is.fn Tryz.func110) rfl (Is.call Tryz.call110) Tryz.results110 Tryz.ntmps110 trivial ?_
 simp only [method_specs_simp, seval, encEv, bne_not]
 refine ⟨by kernel_rfl, h2, ?_⟩
 rw [h1]
 refine clY.con (c_l05Member g s e.key h) (by simp only [method_specs_simp, encEv, bne_not]) ?_
 simp only [method_specs_simp, seval, encEv, bne_not]
 refine ⟨h2, ?_⟩
 rw [h1]
 refine clY.con (c_l05Level g s e.key h ho) (by simp only [method_specs_simp, encEv, bne_not]) ?_
 simp only [method_specs_simp, seval, encEv, bne_not]
 unfold weakE
 cases k1 : decide (p < 50) <;> cases k2 : decide (p ≤ levelE g s e.key) <;> cases k3 : (memberE g s e.key == 0) <;> cases k4 : (memberE g s e.key == 1) <;> cases k5 : (memberE g s e.key == 2) <;> cases k6 : (memberE g s e.key == 3)
 all_goals
   simp only [method_specs_simp, seval, encEv, bne_not, k1, k2, k3, k4, k5, k6]
   cases n1 : (e.n == 4)
   · simp only [method_specs_simp, seval, encEv, bne_not]
     cases n2 : (e.n == 2)
     · simp only [method_specs_simp, seval, encEv, bne_not]
       cases n3 : (e.n == 3)
       · simp only [method_specs_simp, seval, encEv, bne_not]
         try simp
       · simp only [method_specs_simp, seval, encEv, bne_not, k1, k2, k3, k4, k5, k6]
         refine clY.con (c_l05If _) (by simp only [method_specs_simp, encEv, bne_not]) ?_
         simp only [method_specs_simp, seval, encEv, bne_not]
         try simp
     · simp only [method_specs_simp, seval, encEv, bne_not, k1, k2, k3, k4, k5, k6]
       refine clY.con (c_l05If _) (by simp only [method_specs_simp, encEv, bne_not]) ?_
       simp only [method_specs_simp, seval, encEv, bne_not]
       try simp
   · simp only [method_specs_simp, seval, encEv, bne_not, k1, k2, k3, k4, k5, k6]
     refine clY.con (c_l05If _) (by simp only [method_specs_simp, encEv, bne_not]) ?_
     simp only [method_specs_simp, seval, encEv, bne_not]
     try simp
theorem c_l05Allowed (g : Gr) (s : List Ent) (e : Ev) (h : LS g s) : Con P 64 [.agg (encGr g), .sl 3 (s.map encEnt), .agg (encEv e)] (.int .i64 (allowedE g s e)) := by
 have h1 : List.take 3 (encGr g) = encGr g := rfl
 have h2 : 3 ≤ (encGr g).length := Nat.le_refl 3
 have h3 := h.sx
 have h4 := h.hx
 unfold allowedE
 refine Con.of (n := 113) (rs := [.tmp 6]) (Is.fn Tryz.func64) rfl (Is.call Tryz.call64) Tryz.results64 Tryz.ntmps64 trivial ?_
 simp only [method_specs_simp, seval, encEv, bne_not]
 refine clY.con (c_l04At s 1 0 (by omega)) (by simp only [method_specs_simp, encEv, bne_not]) ?_
 simp only [method_specs_simp, seval, encEv, bne_not, h.dec 1 0]
 cases ho : (curE g s 1 0).isSome
 · cases k1 : (e.kind == 1)
   · simp only [method_specs_simp, seval, encEv, bne_not, k1, ho]
     try simp
   · simp only [method_specs_simp, seval, encEv, bne_not, k1, ho]
     try simp
 · cases k1 : (e.kind == 1)
   rotate_left
   · simp only [method_specs_simp, seval, encEv, bne_not, k1, ho]
     try simp
   · simp only [method_specs_simp, seval, encEv, bne_not, k1, ho]
     refine ⟨by kernel_rfl, h2, ?_⟩
     rw [h1]
     refine clY.con (c_l05Member g s e.author h) (by simp only [method_specs_simp, encEv, bne_not]) ?_
     simp only [method_specs_simp, seval, encEv, bne_not]
     refine ⟨h2, ?_⟩
     rw [h1]
     refine clY.con (c_l05Level g s e.author h ho) (by simp only [method_specs_simp, encEv, bne_not]) ?_
     simp only [method_specs_simp, seval, encEv, bne_not]
     cases k3 : (e.kind == 2)
     rotate_left
     · simp only [method_specs_simp, seval, encEv, bne_not, k3]
       cases k4 : (e.key == e.author)
       · simp only [method_specs_simp, seval, encEv, bne_not, k4]
         cases k5 : (memberE g s e.author == 1)
         · simp only [method_specs_simp, seval, encEv, bne_not, k5]
           try simp
         · simp only [method_specs_simp, seval, encEv, bne_not, k5]
           refine ⟨h2, ?_⟩
           rw [h1]
           refine clY.con (c_l05Other g s e _ h ho) (by simp only [method_specs_simp, encEv, bne_not]) ?_
           simp only [method_specs_simp, seval, encEv, bne_not]
           try simp
       · simp only [method_specs_simp, seval, encEv, bne_not, k4]
         refine ⟨h2, ?_⟩
         rw [h1]
         refine clY.con (c_l05Own g s e _ h) (by simp only [method_specs_simp, encEv, bne_not]) ?_
         simp only [method_specs_simp, seval, encEv, bne_not]
         try simp
     · simp only [method_specs_simp, seval, encEv, bne_not, k3]
       cases k5 : (memberE g s e.author == 1)
       · simp only [method_specs_simp, seval, encEv, bne_not, k5]
         try simp
       · simp only [method_specs_simp, seval, encEv, bne_not, k5]
         cases k6 : (e.kind == 3)
         rotate_left
         · simp only [method_specs_simp, seval, encEv, bne_not, k6]
           unfold powerE
           cases k7 : decide (levelE g s e.author < 50)
           rotate_left
           · simp only [method_specs_simp, seval, encEv, bne_not, k7]
             refine clY.con (c_l05If _) (by simp only [method_specs_simp, encEv, bne_not]) ?_
             simp only [method_specs_simp, seval, encEv, bne_not]
             try simp
           · simp only [method_specs_simp, seval, encEv, bne_not, k7]
             cases k8 : decide (e.n > levelE g s e.author)
             rotate_left
             · simp only [method_specs_simp, seval, encEv, bne_not, k8]
               refine clY.con (c_l05If _) (by simp only [method_specs_simp, encEv, bne_not]) ?_
               simp only [method_specs_simp, seval, encEv, bne_not]
               try simp
             · simp only [method_specs_simp, seval, encEv, bne_not, k8]
               cases k9 : (e.key == e.author)
               · simp only [method_specs_simp, seval, encEv, bne_not, k9]
                 refine ⟨h2, ?_⟩
                 rw [h1]
                 refine clY.con (c_l05Level g s e.key h ho) (by simp only [method_specs_simp, encEv, bne_not]) ?_
                 simp only [method_specs_simp, seval, encEv, bne_not]
                 refine clY.con (c_l05If _) (by simp only [method_specs_simp, encEv, bne_not]) ?_
                 simp only [method_specs_simp, seval, encEv, bne_not]
                 try simp
               · simp only [method_specs_simp, seval, encEv, bne_not, k9]
                 refine clY.con (c_l05If _) (by simp only [method_specs_simp, encEv, bne_not]) ?_
                 simp only [method_specs_simp, seval, encEv, bne_not]
                 try simp
         · simp only [method_specs_simp, seval, encEv, bne_not, k6]
           cases k7 : (e.kind == 4)
           · simp only [method_specs_simp, seval, encEv, bne_not, k7]
             cases k8 : (e.kind == 5)
             · simp only [method_specs_simp, seval, encEv, bne_not, k8]
               cases k9 : (e.kind == 6)
               · simp only [method_specs_simp, seval, encEv, bne_not, k9]
                 cases k10 : (e.kind == 8)
                 · simp only [method_specs_simp, seval, encEv, bne_not, k10]
                   try simp
                 · simp only [method_specs_simp, seval, encEv, bne_not, k10, encGr]
                   refine clY.con (c_l03At g.events e.key (by omega)) (by simp only [method_specs_simp, encEv, bne_not]) ?_
                   simp only [method_specs_simp, seval, encEv, bne_not, atI_lt]
                   rw [atE_has]
                   cases k11 : Gm.hasId g.events e.key
                   · simp only [method_specs_simp, seval, encEv, bne_not, k11]
                     try simp
                   · have h5 := Gm.fid_lt k11
                     obtain ⟨x, h6, _⟩ := Gm.fid_get k11
                     rw [← fid_at k11, h6, atI_yes k11]
                     simp only [k11, h6, encEv, Option.getD_some, method_specs_simp, seval]
                     refine ⟨by kernel_rfl, ?_⟩
                     cases k12 : decide (levelE g s e.author < 50)
                     · simp only [method_specs_simp, seval, encEv, bne_not, k12]
                       refine clY.con (c_l05If _) (by simp only [method_specs_simp, encEv, bne_not]) ?_
                       simp only [method_specs_simp, seval, encEv, bne_not]
                       try simp
                     · simp only [method_specs_simp, seval, encEv, bne_not, k12, h6]
                       refine ⟨by omega, by omega, ?_⟩
                       refine clY.con (c_l05If _) (by simp only [method_specs_simp, encEv, bne_not]) ?_
                       simp only [method_specs_simp, seval, encEv, bne_not]
                       try simp
               · simp only [method_specs_simp, seval, encEv, bne_not, k9]
                 refine clY.con (c_l05If _) (by simp only [method_specs_simp, encEv, bne_not]) ?_
                 simp only [method_specs_simp, seval, encEv, bne_not]
                 try simp
             · simp only [method_specs_simp, seval, encEv, bne_not, k8]
               refine clY.con (c_l05If _) (by simp only [method_specs_simp, encEv, bne_not]) ?_
               simp only [method_specs_simp, seval, encEv, bne_not]
               try simp
           · simp only [method_specs_simp, seval, encEv, bne_not, k7]
             refine clY.con (c_l05If _) (by simp only [method_specs_simp, encEv, bne_not]) ?_
             simp only [method_specs_simp, seval, encEv, bne_not]
             try simp
theorem grRight_pos {g : Gr} (h : Gm.grRight g = true) : ∀ e ∈ g.events, 1 ≤ e.id := by
 simp only [Gm.grRight, Gm.rowR, Bool.and_eq_true] at h
 intro e he
 have := ((Gm.rowFrom_srt h.2.1.2).2 e he).1
 simp only [Gm.evRight, Bool.and_eq_true, Gm.isB_iff] at this
 omega
theorem LS.of {g : Gr} {s : List Ent} (hg : GrOK g) (hl : s.length * 24 ≤ 2 ^ 47) (hr : Gm.grRight g = true) (hst : stateE g s = true) : LS g s := by
 refine ⟨⟨hg.1.1, (grRight_srt hr).1, hl, (stateE_ss hst).1⟩, fun k q => ?_⟩
 have hp := grRight_pos hr
 unfold idS curE idS
 cases hf : s.find? (isK k q) with
 | none =>
   refine Or.inl ⟨rfl, ?_⟩
   show atE g.events 0 = none
   refine List.find?_eq_none.2 fun e he => ?_
   have := hp e he
   simp only [beq_iff_eq]
   omega
 | some x =>
   have h1 := List.mem_of_find?_eq_some hf
   simp only [stateE, Bool.and_eq_true, List.all_eq_true] at hst
   have h2 := hst.2 x h1
   simp only [entOf, Bool.and_eq_true] at h2
   have h3 := h2.1
   rw [atE_has] at h3
   obtain ⟨e, h4, h5⟩ := Gm.fid_get h3
   have := hp e (List.mem_of_getElem? h4)
   exact Or.inr ⟨by show 0 < x.id; omega, h3⟩
end
end Go.Proofs.YtdldgbkdcpdbeaaGreat
end

section
namespace Go.Proofs.YtdldgbkdcpdbeaaGreat
open Go.Pm
open Go.Gm (Ev Gr)
section
variable {P : Program} [Is P]
theorem wG_nn (g : Gr) : 0 ≤ wG g := by
 have n1 := wEs_nn g.events
 have n2 := wEs_nn g.parked
 unfold wG
 omega
theorem sb_yes {l w : Int} (hw : 0 ≤ w) (h : decide (sb l w < 0) = !true) : sb l w = l - w ∧ l - w ≤ l ∧ 0 ≤ l - w := by
 unfold sb at *
 simp only [Bool.not_true, decide_eq_false_iff_not] at h
 split at h
 · omega
 · rename_i h2
   rw [if_neg h2]
   omega
end
end Go.Proofs.YtdldgbkdcpdbeaaGreat
end

section
namespace Go.Proofs.YtdldgbkdcpdbeaaGreat
open Go.Pm
open Go.ChangeShapes Go.WideShapes Go.ChangeAt Go.RowKit
set_option maxRecDepth 100000
def tEnt : Ty := .st [.int .i64, .int .i64, .int .i64]
def tEnts : Ty := .sl 3 24 tEnt
theorem in_ent {xs : List V} (h : In tEnt xs) : ∃ x : Ent, xs = encEnt x := by
 obtain ⟨a, b, rfl, ⟨n, rfl, _⟩, c, d, rfl, ⟨m, rfl, _⟩, e, f, rfl, ⟨l, rfl, _⟩, rfl⟩ := h
 exact ⟨⟨n, m, l⟩, rfl⟩
theorem list_map_ofE {α β : Type} {p : α → β → Prop} {f : β → α} (hf : ∀ a b, p a b → a = f b) : ∀ {l : List α}, (∀ a ∈ l, ∃ b, p a b) → ∃ m : List β, l = m.map f
 | [], _ => ⟨[], rfl⟩
 | a :: l, h => by
   obtain ⟨b, hb⟩ := h a List.mem_cons_self
   obtain ⟨m, hm⟩ := list_map_ofE hf fun x hx => h x (List.mem_cons_of_mem _ hx)
   exact ⟨b :: m, by rw [hm, hf a b hb]; rfl⟩
theorem in_ents {xs : List V} (h : In tEnts xs) : ∃ ns : List Ent, xs = [.sl 3 (ns.map encEnt)] ∧ ns.length * 24 ≤ reachBytes := by
 obtain ⟨rows, rfl, hl, hr⟩ := h
 obtain ⟨ns, rfl⟩ := list_map_ofE (p := fun a b => a = encEnt b) (fun _ _ h => h) fun r hr' => in_ent (hr r hr')
 exact ⟨ns, rfl, by simpa using hl⟩
theorem ok_ent : OKT Tryz.prog tEnt 116 := by
 refine ⟨_, Tryz.underlying116, rfl, Tryz.underlying2, rfl, Tryz.underlying2, rfl, Tryz.underlying2, ?_⟩
 all_goals first | kernel_rfl | decide | (show (_ : Nat) = _; kernel_rfl)
theorem ok_ents : OKT Tryz.prog tEnts 75 := by
 refine ⟨_, Tryz.underlying75, ok_ent, ?_, ?_, ?_⟩
 all_goals first | kernel_rfl | decide | (show (_ : Nat) = _; kernel_rfl)
end Go.Proofs.YtdldgbkdcpdbeaaGreat
end

section
namespace Go.Proofs.YtdldgbkdcpdbeaaGreat
open Go.Pm
open Go.Gm (Ev Gr)
open Go.ChangeShapes Go.WideShapes Go.ChangeAt Go.RowKit
set_option maxRecDepth 100000
def tInts : Ty := .sl 1 8 (.int .i64)
def tEvent : Ty := .st [.int .i64, .int .i64, .int .i64, .int .i64, .int .i64, .int .i64, .str, tInts, .int .i64]
def tEvents : Ty := .sl 9 96 tEvent
def tGraph : Ty := .st [.int .i64, tEvents, tEvents]
theorem list_map_ofG {α β : Type} {p : α → β → Prop} {q : β → Prop} {f : β → α} (hf : ∀ a b, p a b → a = f b ∧ q b) : ∀ {l : List α}, (∀ a ∈ l, ∃ b, p a b) → ∃ m : List β, l = m.map f ∧ ∀ b ∈ m, q b
 | [], _ => ⟨[], rfl, fun _ h => by cases h⟩
 | a :: l, h => by
   obtain ⟨b, hb⟩ := h a List.mem_cons_self
   obtain ⟨m, hm, hq⟩ := list_map_ofG hf fun x hx => h x (List.mem_cons_of_mem _ hx)
   refine ⟨b :: m, by rw [hm, (hf a b hb).1]; rfl, fun x hx => ?_⟩
   rcases List.mem_cons.1 hx with rfl | hx
   · exact (hf a _ hb).2
   · exact hq x hx
theorem in_ints {xs : List V} (h : In tInts xs) : ∃ l : List Int, xs = [.sl 1 (l.map encI)] ∧ l.length * 8 ≤ reachBytes := by
 obtain ⟨rows, rfl, hl, hr⟩ := h
 obtain ⟨l, rfl, _⟩ := list_map_ofG (p := fun a b => a = encI b) (q := fun _ => True) (fun _ _ h => ⟨h, trivial⟩) fun r hr' => by
   obtain ⟨n, h, _⟩ := hr r hr'
   exact ⟨n, h⟩
 exact ⟨l, rfl, by simpa using hl⟩
theorem in_event {xs : List V} (h : In tEvent xs) : ∃ e : Ev, xs = encEv e ∧ EvOK e := by
 obtain ⟨_, _, rfl, ⟨a, rfl, _⟩, _, _, rfl, ⟨b, rfl, _⟩, _, _, rfl, ⟨c, rfl, _⟩, _, _, rfl, ⟨d, rfl, _⟩, _, _, rfl, ⟨e, rfl, _⟩, _, _, rfl, ⟨f, rfl, _⟩, _, _, rfl, ⟨s, rfl, hs⟩, _, _, rfl, hp, _, _, rfl, ⟨t, rfl, _⟩, rfl⟩ := h
 obtain ⟨l, rfl, hl⟩ := in_ints hp
 have h0 := reachBytes_lt
 exact ⟨⟨a, b, c, d, e, f, s, l, t⟩, rfl, by show s.size < _; omega, by show l.length < _; omega⟩
theorem in_events {xs : List V} (h : In tEvents xs) : ∃ l : List Ev, xs = [.sl 9 (l.map encEv)] ∧ EvsOK l := by
 obtain ⟨rows, rfl, hl, hr⟩ := h
 obtain ⟨l, rfl, hq⟩ := list_map_ofG (p := fun a b => a = encEv b ∧ EvOK b) (q := EvOK) (fun _ _ h => h) fun r hr' => in_event (hr r hr')
 have h0 := reachBytes_lt
 exact ⟨l, rfl, by simp only [List.length_map] at hl; omega, hq⟩
theorem in_graph {xs : List V} (h : In tGraph xs) : ∃ g : Gr, xs = encGr g ∧ GrOK g := by
 obtain ⟨_, _, rfl, ⟨a, rfl, _⟩, _, _, rfl, hb, _, _, rfl, hc, rfl⟩ := h
 obtain ⟨b, rfl, hb2⟩ := in_events hb
 obtain ⟨c, rfl, hc2⟩ := in_events hc
 exact ⟨⟨a, b, c⟩, rfl, hb2, hc2⟩
theorem ok_ints : OKT Tryz.prog tInts 46 := by
 refine ⟨_, Tryz.underlying46, Tryz.underlying2, ?_, ?_, ?_⟩
 all_goals first | kernel_rfl | decide | (show (_ : Nat) = _; kernel_rfl)
theorem ok_event : OKT Tryz.prog tEvent 91 := by
 refine ⟨_, Tryz.underlying91, rfl, Tryz.underlying2, rfl, Tryz.underlying2, rfl, Tryz.underlying2, rfl, Tryz.underlying2, rfl, Tryz.underlying2, rfl, Tryz.underlying2, rfl, Tryz.underlying9, rfl, ok_ints, rfl, Tryz.underlying2, ?_⟩
 all_goals first | kernel_rfl | decide | (show (_ : Nat) = _; kernel_rfl)
theorem ok_events : OKT Tryz.prog tEvents 22 := by
 refine ⟨_, Tryz.underlying22, ok_event, ?_, ?_, ?_⟩
 all_goals first | kernel_rfl | decide | (show (_ : Nat) = _; kernel_rfl)
theorem ok_graph : OKT Tryz.prog tGraph 24 := by
 refine ⟨_, Tryz.underlying24, rfl, Tryz.underlying2, rfl, ok_events, rfl, ok_events, ?_⟩
 all_goals first | kernel_rfl | decide | (show (_ : Nat) = _; kernel_rfl)
end Go.Proofs.YtdldgbkdcpdbeaaGreat
end

section
section
namespace Go.Gm
def ltD (d : Int → Int) (x y : Int) : Bool := decide (d x < d y) || (decide (d x = d y) && decide (x < y))
def LtD (d : Int → Int) (x y : Int) : Prop := ltD d x y = true
theorem ltD_iff {d : Int → Int} {x y : Int} : LtD d x y ↔ d x < d y ∨ (d x = d y ∧ x < y) := by simp [LtD, ltD]
theorem ltD_str (d : Int → Int) : Str (LtD d) := ⟨fun x h => by rw [ltD_iff] at h; omega, fun x y z h1 h2 => by rw [ltD_iff] at *; omega⟩
theorem ltD_tot {d : Int → Int} {x y : Int} (h : x ≠ y) (hn : ¬ LtD d x y) : LtD d y x := by rw [ltD_iff] at *; omega
def insD (d : Int → Int) (x : Int) : List Int → List Int
 | [] => [x]
 | y :: l => if ltD d x y = true then x :: y :: l else y :: insD d x l
def srtD (d : Int → Int) : List Int → List Int
 | [] => []
 | x :: l => insD d x (srtD d l)
theorem insD_perm (d : Int → Int) (x : Int) : ∀ l, (insD d x l).Perm (x :: l)
 | [] => List.Perm.refl _
 | y :: l => by
   unfold insD
   split
   · exact List.Perm.refl _
   · exact ((insD_perm d x l).cons y).trans (List.Perm.swap x y l)
theorem srtD_perm (d : Int → Int) : ∀ l, (srtD d l).Perm l
 | [] => List.Perm.refl _
 | x :: l => (insD_perm d x _).trans ((srtD_perm d l).cons x)
theorem insD_sorted {d : Int → Int} {x : Int} : ∀ {l : List Int}, l.Pairwise (LtD d) → x ∉ l → (insD d x l).Pairwise (LtD d)
 | [], _, _ => List.pairwise_singleton _ _
 | y :: l, h, hx => by
   have h1 := List.pairwise_cons.1 h
   unfold insD
   split
   · rename_i hlt
     refine List.pairwise_cons.2 ⟨fun z hz => ?_, h⟩
     rcases List.mem_cons.1 hz with rfl | hz
     · exact hlt
     · exact (ltD_str d).tr _ _ _ hlt (h1.1 z hz)
   · rename_i hlt
     refine List.pairwise_cons.2 ⟨fun z hz => ?_, insD_sorted h1.2 fun hm => hx (List.mem_cons_of_mem _ hm)⟩
     rcases List.mem_cons.1 ((insD_perm d x l).subset hz) with rfl | hz
     · exact ltD_tot (fun e => hx (e ▸ List.mem_cons_self)) hlt
     · exact h1.1 z hz
def StD (d : Int → Int) (l : List Int) : Prop := l.Pairwise fun x y => d x = d y → x < y
theorem StD.nodup {d : Int → Int} {l : List Int} (h : StD d l) : l.Nodup := List.Pairwise.imp (fun {x y} h e => by subst e; exact absurd (h rfl) (by omega)) h
theorem srtD_sorted {d : Int → Int} : ∀ {l : List Int}, l.Nodup → (srtD d l).Pairwise (LtD d)
 | [], _ => List.Pairwise.nil
 | x :: l, h => by
   have h1 := List.nodup_cons.1 h
   exact insD_sorted (srtD_sorted h1.2) fun hm => h1.1 ((srtD_perm d l).subset hm)
theorem srtD_of {d : Int → Int} {l l' : List Int} (hp : l'.Perm l) (hs : l'.Pairwise (LtD d)) : l' = srtD d l := by
 have hn : l'.Nodup := List.Pairwise.imp (fun {x y} h e => by subst e; exact (ltD_str d).irr _ h) hs
 exact sorted_one (ltD_str d) (hp.trans (srtD_perm d l).symm) hs (srtD_sorted (hp.nodup hn))
theorem srtD_same {d : Int → Int} {l l' : List Int} (h : l.Nodup) (hp : l'.Perm l) : srtD d l' = srtD d l := srtD_of ((srtD_perm d l').trans hp) (srtD_sorted (hp.symm.nodup h))
theorem srtD_id {d : Int → Int} {l : List Int} (hs : l.Pairwise (LtD d)) : srtD d l = l := (srtD_of (List.Perm.refl _) hs).symm
theorem srtD_len (d : Int → Int) (l : List Int) : (srtD d l).length = l.length := (srtD_perm d l).length_eq
theorem behind {d : Int → Int} {x y : Int} (h : d x = d y → x < y) : decide (d y < d x) = ltD d y x := by
 unfold ltD
 by_cases h1 : d y < d x
 · simp [h1]
 · by_cases h2 : d y = d x
   · have := h h2.symm
     simp [h1, h2]; omega
   · simp [h1, h2]
theorem get_mid {α : Type} (P : List α) (x : α) (Q : List α) : (P ++ x :: Q)[P.length]? = some x := by simp
theorem get_mid2 {α : Type} (P Q R : List α) (x y : α) : (P ++ x :: (Q ++ y :: R))[P.length + 1 + Q.length]? = some y := by
 rw [List.getElem?_append_right (by omega), show P.length + 1 + Q.length - P.length = Q.length + 1 by omega, List.getElem?_cons_succ]
 simp
theorem set_mid {α : Type} (P : List α) (x z : α) (Q : List α) : (P ++ x :: Q).set P.length z = P ++ z :: Q := by simp
theorem set_mid2 {α : Type} (P Q R : List α) (x y z : α) : (P ++ x :: (Q ++ y :: R)).set (P.length + 1 + Q.length) z = P ++ x :: (Q ++ z :: R) := by
 rw [List.set_append_right _ _ (by omega), show P.length + 1 + Q.length - P.length = Q.length + 1 by omega, List.set_cons_succ, set_mid]
theorem swp {α : Type} (P Q R : List α) (x y : α) : ((P ++ x :: (Q ++ y :: R)).set P.length y).set (P.length + 1 + Q.length) x = P ++ y :: (Q ++ x :: R) := by rw [set_mid, set_mid2]
theorem swp' {α : Type} (P Q R : List α) (x y : α) : ((P ++ x :: (Q ++ y :: R)).set (P.length + 1 + Q.length) x).set P.length y = P ++ y :: (Q ++ x :: R) := by rw [set_mid2, set_mid]
theorem pw_get {α : Type} {T : α → α → Prop} {l : List α} (h : l.Pairwise T) {i j : Nat} {x y : α} (hij : i < j) (hx : l[i]? = some x) (hy : l[j]? = some y) : T x y := by
 obtain ⟨hi, rfl⟩ := List.getElem?_eq_some_iff.1 hx
 obtain ⟨hj, rfl⟩ := List.getElem?_eq_some_iff.1 hy
 exact List.pairwise_iff_getElem.1 h i j hi hj hij
theorem mem_take_get {α : Type} {l : List α} {s : Nat} {x : α} (h : x ∈ l.take s) : ∃ i, i < s ∧ l[i]? = some x := by
 obtain ⟨i, hi⟩ := List.mem_iff_getElem?.1 h
 rw [List.getElem?_take] at hi
 split at hi
 · exact ⟨i, by assumption, hi⟩
 · cases hi
theorem mem_drop_get {α : Type} {l : List α} {s : Nat} {x : α} (h : x ∈ l.drop s) : ∃ i, s ≤ i ∧ l[i]? = some x := by
 obtain ⟨i, hi⟩ := List.mem_iff_getElem?.1 h
 rw [List.getElem?_drop] at hi
 exact ⟨s + i, by omega, hi⟩
theorem cut_fits {d : Int → Int} {L R : List Int} (hL : L.Pairwise (LtD d)) (hR : R.Pairwise (LtD d)) {s t : Nat}
   (h : s = 0 ∨ t = R.length ∨ ∃ x y, L[s - 1]? = some x ∧ R[t]? = some y ∧ LtD d x y) : ∀ x ∈ L.take s, ∀ y ∈ R.drop t, LtD d x y := by
 intro x hx y hy
 replace hx := mem_take_get hx
 replace hy := mem_drop_get hy
 obtain ⟨i, hi, hx⟩ := hx
 obtain ⟨j, hj, hy⟩ := hy
 rcases h with rfl | rfl | ⟨x0, y0, h1, h2, h3⟩
 · omega
 · obtain ⟨hlt, _⟩ := List.getElem?_eq_some_iff.1 hy
   omega
 · have a1 : x = x0 ∨ LtD d x x0 := by
     by_cases e : i = s - 1
     · left; rw [e, h1] at hx; injection hx with hx; exact hx.symm
     · right; exact pw_get hL (by omega) hx h1
   have a2 : y0 = y ∨ LtD d y0 y := by
     by_cases e : t = j
     · left; rw [← e, h2] at hy; injection hy with hy
     · right; exact pw_get hR (by omega) h2 hy
   have h4 : LtD d x y0 := a1.elim (fun e => e ▸ h3) fun a1 => (ltD_str d).tr _ _ _ a1 h3
   rcases a2 with rfl | a2
   · exact h4
   · exact (ltD_str d).tr _ _ _ h4 a2
theorem cut_one {d : Int → Int} {R : List Int} (hR : R.Pairwise (LtD d)) {x : Int} {t : Nat} (h1 : t = 0 ∨ ∃ y, R[t - 1]? = some y ∧ LtD d y x) (h2 : t = R.length ∨ ∃ y, R[t]? = some y ∧ LtD d x y) :
   (R.take t ++ x :: R.drop t).Pairwise (LtD d) ∧ (R.take t ++ x :: R.drop t).Perm (x :: R) := by
 constructor
 · have hc := hR
   rw [← List.take_append_drop t R] at hc
   have hc := List.pairwise_append.1 hc
   have a1 : ∀ y ∈ R.take t, LtD d y x := fun y hy => cut_fits (L := R) (R := [x]) hR (List.pairwise_singleton _ _) (s := t) (t := 0)
     (h1.elim .inl fun ⟨y, h1, h3⟩ => .inr (.inr ⟨y, x, h1, rfl, h3⟩)) y hy x (by simp)
   have a2 : ∀ y ∈ R.drop t, LtD d x y := fun y hy => cut_fits (L := [x]) (R := R) (List.pairwise_singleton _ _) hR (s := 1) (t := t)
     (h2.elim (fun h2 => .inr (.inl h2)) fun ⟨y, h2, h3⟩ => .inr (.inr ⟨x, y, rfl, h2, h3⟩)) x (by simp) y hy
   refine List.pairwise_append.2 ⟨hc.1, List.pairwise_cons.2 ⟨a2, hc.2.1⟩, fun y hy z hz => ?_⟩
   rcases List.mem_cons.1 hz with rfl | hz
   · exact a1 y hy
   · exact hc.2.2 y hy z hz
 · have : (R.take t ++ x :: R.drop t).Perm (x :: (R.take t ++ R.drop t)) := List.perm_middle
   rwa [List.take_append_drop] at this
theorem merged {d : Int → Int} {L R : List Int} (hL : L.Pairwise (LtD d)) (hR : R.Pairwise (LtD d)) {s t : Nat} (hs : StD d (L ++ R))
   (h1 : s = 0 ∨ t = R.length ∨ ∃ x y, L[s - 1]? = some x ∧ R[t]? = some y ∧ LtD d x y) (h2 : s = L.length ∨ t = 0 ∨ ∃ x y, L[s]? = some x ∧ R[t - 1]? = some y ∧ LtD d y x) :
   srtD d (L.take s ++ R.take t) ++ srtD d (L.drop s ++ R.drop t) = srtD d (L ++ R) := by
 have c1 := cut_fits hL hR h1
 have c2 := cut_fits (L := R) (R := L) hR hL (s := t) (t := s) (h2.elim (fun h2 => .inr (.inl h2)) fun h2 => h2.elim .inl fun ⟨x, y, e1, e2, e3⟩ => .inr (.inr ⟨y, x, e2, e1, e3⟩))
 have eL : L.take s ++ L.drop s = L := List.take_append_drop s L
 have eR : R.take t ++ R.drop t = R := List.take_append_drop t R
 have hn := hs.nodup
 have sub1 : (L.take s ++ R.take t).Nodup := (List.Sublist.append (List.take_sublist s L) (List.take_sublist t R)).nodup hn
 have sub2 : (L.drop s ++ R.drop t).Nodup := (List.Sublist.append (List.drop_sublist s L) (List.drop_sublist t R)).nodup hn
 have hh := halves (ltD_str d) (L1 := L.take s) (L2 := L.drop s) (R1 := R.take t) (R2 := R.drop t) (by rw [eL]; exact hL) (by rw [eR]; exact hR) c1 c2 (srtD_perm d _) (srtD_perm d _) (srtD_sorted sub1) (srtD_sorted sub2)
 rw [eL, eR] at hh
 exact srtD_of hh.2 hh.1
theorem StD.sub {d : Int → Int} {l l' : List Int} (h : StD d l) (hs : l'.Sublist l) : StD d l' := List.Pairwise.sublist hs h
theorem two_get {α : Type} {z P Q R : List α} {x y : α} {i j : Nat} (h : z = P ++ x :: (Q ++ y :: R)) (hi : i = P.length) (hj : j = P.length + 1 + Q.length) :
   z[i]? = some x ∧ z[j]? = some y ∧ (z.set i y).set j x = P ++ y :: (Q ++ x :: R) ∧ (z.set j x).set i y = P ++ y :: (Q ++ x :: R) := by
 subst h; subst hi; subst hj
 exact ⟨get_mid _ _ _, get_mid2 _ _ _ _ _, swp _ _ _ _ _, swp' _ _ _ _ _⟩
theorem drop_next {α : Type} {l : List α} {i : Nat} (h : i < l.length) : ∃ x, l[i]? = some x ∧ l.drop i = x :: l.drop (i + 1) ∧ l.take (i + 1) = l.take i ++ [x] := by
 refine ⟨l[i], List.getElem?_eq_getElem h, List.drop_eq_getElem_cons h, ?_⟩
 rw [List.take_add_one, List.getElem?_eq_getElem h]; rfl
end Go.Gm
end
section
namespace Go.Gm
def blk (d : Int → Int) (bs : Nat) (l : List Int) : List Int := if h : bs = 0 ∨ l.length ≤ bs then srtD d l else srtD d (l.take bs) ++ blk d bs (l.drop bs)
termination_by l.length
decreasing_by rw [List.length_drop]; omega
theorem blk_small {d : Int → Int} {bs : Nat} {l : List Int} (h : l.length ≤ bs) : blk d bs l = srtD d l := by rw [blk, dif_pos (.inr h)]
theorem blk_nil (d : Int → Int) (bs : Nat) : blk d bs [] = [] := by rw [blk_small (by simp)]; rfl
theorem blk_big {d : Int → Int} {bs : Nat} {l : List Int} (h0 : 0 < bs) (h : bs ≤ l.length) : blk d bs l = srtD d (l.take bs) ++ blk d bs (l.drop bs) := by
 by_cases e : l.length = bs
 · rw [blk_small (by omega), List.take_of_length_le (by omega), List.drop_eq_nil_of_le (by omega), blk_nil, List.append_nil]
 · rw [blk, dif_neg (by omega)]
theorem blk_perm (d : Int → Int) (bs : Nat) (l : List Int) : (blk d bs l).Perm l := by
 rw [blk]
 split
 · exact srtD_perm d l
 · rename_i h
   have := blk_perm d bs (l.drop bs)
   have h2 := (srtD_perm d (l.take bs)).append this
   rwa [List.take_append_drop] at h2
termination_by l.length
decreasing_by rw [List.length_drop]; omega
theorem blk_len (d : Int → Int) (bs : Nat) (l : List Int) : (blk d bs l).length = l.length := (blk_perm d bs l).length_eq
theorem StD.sorted2 {d : Int → Int} {L R : List Int} (h : StD d (L ++ R)) : StD d (srtD d L ++ srtD d R) := by
 have h1 := List.pairwise_append.1 h
 have nd := h.nodup
 have nL : L.Nodup := (List.sublist_append_left L R).nodup nd
 have nR : R.Nodup := (List.sublist_append_right L R).nodup nd
 refine List.pairwise_append.2 ⟨?_, ?_, fun x hx y hy => h1.2.2 x ((srtD_perm d L).subset hx) y ((srtD_perm d R).subset hy)⟩
 · refine List.Pairwise.imp (fun {x y} q e => ?_) (srtD_sorted (d := d) nL)
   rw [ltD_iff] at q; omega
 · refine List.Pairwise.imp (fun {x y} q e => ?_) (srtD_sorted (d := d) nR)
   rw [ltD_iff] at q; omega
theorem srtD_two {d : Int → Int} {L R : List Int} (h : StD d (L ++ R)) : srtD d (srtD d L ++ srtD d R) = srtD d (L ++ R) := srtD_same h.nodup ((srtD_perm d L).append (srtD_perm d R))
theorem take_two {α : Type} (X : List α) (k : Nat) : X.take (2 * k) = X.take k ++ (X.drop k).take k := by
 rw [show 2 * k = k + k by omega, List.take_add]
theorem drop_two {α : Type} (X : List α) (k : Nat) : X.drop (2 * k) = (X.drop k).drop k := by rw [List.drop_drop, show k + k = 2 * k by omega]
theorem blk_two {d : Int → Int} {bs : Nat} {X : List Int} (h0 : 0 < bs) (h : 2 * bs ≤ X.length) : blk d bs X = srtD d (X.take bs) ++ (srtD d ((X.drop bs).take bs) ++ blk d bs (X.drop (2 * bs))) := by
 rw [blk_big h0 (by omega), blk_big (l := X.drop bs) h0 (by rw [List.length_drop]; omega), drop_two]
structure Stg (d : Int → Int) (l : List Int) (b1 b2 n a : Nat) (P z : List Int) : Prop where
 hP : P.length = a
 ha : a ≤ n
 hn : l.length = n
 hz : z = P ++ blk d b1 (l.drop a)
 hb : blk d b2 l = P ++ blk d b2 (l.drop a)
theorem Stg.start {d : Int → Int} {l : List Int} {b1 b2 n : Nat} (hn : l.length = n) : Stg d l b1 b2 n 0 [] (blk d b1 l) := ⟨rfl, Nat.zero_le _, hn, rfl, rfl⟩
theorem Stg.len {d : Int → Int} {l : List Int} {b1 b2 n a : Nat} {P z : List Int} (s : Stg d l b1 b2 n a P z) : z.length = n := by
 rw [s.hz, List.length_append, blk_len, List.length_drop, s.hP, s.hn]; have := s.ha; omega
theorem Stg.round {d : Int → Int} {l : List Int} {bs n a : Nat} {P z : List Int} (s : Stg d l bs (2 * bs) n a P z) (h0 : 0 < bs) (hb : a + 2 * bs ≤ n) (hs : StD d l) :
   ∃ L R B z', z = P ++ (L ++ (R ++ B)) ∧ z' = P ++ (srtD d (L ++ R) ++ B) ∧ L.length = bs ∧ R.length = bs ∧ L.Pairwise (LtD d) ∧ R.Pairwise (LtD d) ∧ StD d (L ++ R) ∧ (∀ x ∈ L ++ R, x ∈ l) ∧ Stg d l bs (2 * bs) n (a + 2 * bs) (P ++ srtD d (L ++ R)) z' := by
 have hl := s.hn
 have hX : 2 * bs ≤ (l.drop a).length := by rw [List.length_drop]; omega
 obtain ⟨X, hXX⟩ : ∃ X, X = l.drop a := ⟨_, rfl⟩
 have sub : X.Sublist l := by rw [hXX]; exact List.drop_sublist _ _
 have hsX : StD d (X.take bs ++ (X.drop bs).take bs) := by rw [← take_two]; exact hs.sub ((List.take_sublist _ _).trans sub)
 have nd := hsX.nodup
 have nL : (X.take bs).Nodup := (List.sublist_append_left _ _).nodup nd
 have nR : ((X.drop bs).take bs).Nodup := (List.sublist_append_right _ _).nodup nd
 rw [← hXX] at hX
 refine ⟨srtD d (X.take bs), srtD d ((X.drop bs).take bs), blk d bs (X.drop (2 * bs)), _, ?_, rfl, ?_, ?_, srtD_sorted nL, srtD_sorted nR, hsX.sorted2, ?_, ?_, ?_, ?_, ?_, ?_⟩
 · rw [s.hz, ← hXX, blk_two h0 hX]
 · rw [srtD_len, List.length_take]; omega
 · rw [srtD_len, List.length_take, List.length_drop]; omega
 · intro x hx
   have hx := ((srtD_perm d _).append (srtD_perm d _)).subset hx
   rw [← take_two] at hx
   exact sub.subset ((List.take_sublist _ _).subset hx)
 · rw [List.length_append, srtD_two hsX, srtD_len, ← take_two, List.length_take, s.hP]; omega
 · omega
 · exact hl
 · rw [srtD_two hsX, ← take_two, hXX, List.drop_drop, List.append_assoc]
 · rw [s.hb, ← hXX, blk_big (by omega) hX, srtD_two hsX, ← take_two, hXX, List.drop_drop, List.append_assoc]
theorem Stg.last {d : Int → Int} {l : List Int} {bs n a : Nat} {P z : List Int} (s : Stg d l bs (2 * bs) n a P z) (h0 : 0 < bs) (hb : ¬ a + 2 * bs ≤ n) (hm : a + bs < n) (hs : StD d l) :
   ∃ L R, z = P ++ (L ++ (R ++ [])) ∧ blk d (2 * bs) l = P ++ (srtD d (L ++ R) ++ []) ∧ L.length = bs ∧ a + bs + R.length = n ∧ L.Pairwise (LtD d) ∧ R.Pairwise (LtD d) ∧ StD d (L ++ R) ∧ (∀ x ∈ L ++ R, x ∈ l) := by
 have hl := s.hn
 obtain ⟨X, hXX⟩ : ∃ X, X = l.drop a := ⟨_, rfl⟩
 have hX : X.length + a = n := by rw [hXX, List.length_drop]; omega
 have sub : X.Sublist l := by rw [hXX]; exact List.drop_sublist _ _
 have hsX : StD d (X.take bs ++ X.drop bs) := by rw [List.take_append_drop]; exact hs.sub sub
 have nd := hsX.nodup
 have nL : (X.take bs).Nodup := (List.sublist_append_left _ _).nodup nd
 have nR : (X.drop bs).Nodup := (List.sublist_append_right _ _).nodup nd
 refine ⟨srtD d (X.take bs), srtD d (X.drop bs), ?_, ?_, ?_, ?_, srtD_sorted nL, srtD_sorted nR, hsX.sorted2, ?_⟩
 · rw [s.hz, ← hXX, blk_big h0 (by omega), blk_small (l := X.drop bs) (by rw [List.length_drop]; omega), List.append_nil]
 · rw [s.hb, ← hXX, blk_small (by omega), srtD_two hsX, List.take_append_drop, List.append_nil]
 · rw [srtD_len, List.length_take]; omega
 · rw [srtD_len, List.length_drop]; omega
 · intro x hx
   have hx := ((srtD_perm d _).append (srtD_perm d _)).subset hx
   rw [List.take_append_drop] at hx
   exact sub.subset hx
theorem Stg.rest {d : Int → Int} {l : List Int} {bs n a : Nat} {P z : List Int} (s : Stg d l bs (2 * bs) n a P z) (hm : ¬ a + bs < n) : z = blk d (2 * bs) l := by
 have hl := s.hn
 rw [s.hz, s.hb, blk_small (by rw [List.length_drop]; omega), blk_small (by rw [List.length_drop]; omega)]
structure Stg0 (d : Int → Int) (l : List Int) (bs n a : Nat) (P z : List Int) : Prop where
 hP : P.length = a
 ha : a ≤ n
 hn : l.length = n
 hz : z = P ++ l.drop a
 hb : blk d bs l = P ++ blk d bs (l.drop a)
theorem Stg0.len {d : Int → Int} {l : List Int} {bs n a : Nat} {P z : List Int} (s : Stg0 d l bs n a P z) : z.length = n := by
 rw [s.hz, List.length_append, List.length_drop, s.hP, s.hn]; have := s.ha; omega
theorem Stg0.round {d : Int → Int} {l : List Int} {bs n a : Nat} {P z : List Int} (s : Stg0 d l bs n a P z) (h0 : 0 < bs) (hb : a + bs ≤ n) (hs : StD d l) :
   ∃ X B, z = P ++ (X ++ B) ∧ X.length = bs ∧ StD d X ∧ (∀ x ∈ X, x ∈ l) ∧ Stg0 d l bs n (a + bs) (P ++ srtD d X) (P ++ (srtD d X ++ B)) := by
 have hl := s.hn
 have hX : bs ≤ (l.drop a).length := by rw [List.length_drop]; omega
 refine ⟨(l.drop a).take bs, (l.drop a).drop bs, by rw [List.take_append_drop]; exact s.hz, by rw [List.length_take]; omega, hs.sub ((List.take_sublist _ _).trans (List.drop_sublist _ _)), fun x hx => ((List.take_sublist _ _).trans (List.drop_sublist _ _)).subset hx, ?_, by omega, hl, ?_, ?_⟩
 · rw [List.length_append, srtD_len, List.length_take, s.hP]; omega
 · rw [List.drop_drop, List.append_assoc]
 · rw [s.hb, blk_big h0 hX, List.drop_drop, List.append_assoc]
theorem Stg0.last {d : Int → Int} {l : List Int} {bs n a : Nat} {P z : List Int} (s : Stg0 d l bs n a P z) (hb : ¬ a + bs ≤ n) (hs : StD d l) :
   ∃ X, z = P ++ (X ++ []) ∧ n = a + X.length ∧ StD d X ∧ (∀ x ∈ X, x ∈ l) ∧ blk d bs l = P ++ (srtD d X ++ []) := by
 have hl := s.hn
 have ha := s.ha
 refine ⟨l.drop a, by rw [List.append_nil]; exact s.hz, by rw [List.length_drop]; omega, hs.sub (List.drop_sublist _ _), fun x hx => (List.drop_sublist _ _).subset hx, ?_⟩
 rw [s.hb, blk_small (by rw [List.length_drop]; omega), List.append_nil]
end Go.Gm
end
section
namespace Go.Gm
def LtP (evs : List Ev) (d : List Int) : Prop := ∀ (i : Nat) (e : Ev), evs[i]? = some e → 0 < d.getD i 0 → ∀ p ∈ e.prev, 0 < dAt evs d p ∧ dAt evs d p < d.getD i 0
theorem foldMax_ge : ∀ (l : List Int) (a x : Int), x ∈ l → x ≤ l.foldl (fun a b => if b > a then b else a) a
 | [], a, x, h => by cases h
 | y :: l, a, x, h => by
   rw [List.foldl_cons]
   rcases List.mem_cons.1 h with rfl | h
   · refine Int.le_trans ?_ (foldMax_nn l _)
     split <;> omega
   · exact foldMax_ge l _ x h
theorem step_ltP {evs : List Ev} {d : List Int} (h0 : OkD evs d) (h : LtP evs d) (i : Nat) : LtP evs (stepD evs d i) := by
 unfold stepD
 split
 · exact h
 · rename_i hz
   split
   · rename_i e he
     split
     · rename_i hp
       have hi : i < d.length := by rw [h0.len]; exact (List.getElem?_eq_some_iff.1 he).1
       have hg : ∀ j : Nat, (d.set i (ownD evs d e)).getD j 0 = if j = i then ownD evs d e else d.getD j 0 := by
         intro j
         rw [List.getD_eq_getElem?_getD, List.getD_eq_getElem?_getD, List.getElem?_set]
         by_cases hji : j = i
         · subst hji; simp [hi]
         · rw [if_neg (fun q => hji q.symm), if_neg hji]
       have hd : ∀ p, 0 < dAt evs d p → dAt evs (d.set i (ownD evs d e)) p = dAt evs d p := by
         intro p hpp
         unfold dAt at hpp ⊢
         rw [hg]
         split
         · rename_i e1; rw [e1] at hpp; exact absurd hpp hz
         · rfl
       intro j e' he' hj p hpm
       rw [hg] at hj ⊢
       by_cases hji : j = i
       · subst hji
         rw [he] at he'
         injection he' with he'
         subst he'
         rw [if_pos rfl]
         have ha := own_pos.1 hp
         rw [List.all_eq_true] at ha
         have h1 : 0 < dAt evs d p := by simpa using ha p hpm
         rw [hd p h1]
         refine ⟨h1, ?_⟩
         unfold ownD
         rw [if_pos (List.all_eq_true.2 ha)]
         have := foldMax_ge (e.prev.map (dAt evs d)) 0 _ (List.mem_map_of_mem hpm)
         omega
       · rw [if_neg hji] at hj ⊢
         obtain ⟨h1, h2⟩ := h j e' he' hj p hpm
         rw [hd p h1]
         exact ⟨h1, h2⟩
     · exact h
   · exact h
theorem passK_ltP {evs : List Ev} {d : List Int} (h0 : OkD evs d) (h : LtP evs d) : ∀ k, LtP evs (passK evs d k)
 | 0 => h
 | k + 1 => by rw [passK_succ]; exact step_ltP (passK_ok h0 k) (passK_ltP h0 h k) k
theorem iter_ltP {evs : List Ev} : ∀ (k : Nat) {d : List Int}, OkD evs d → LtP evs d → LtP evs (iterD evs k d)
 | 0, d, _, h => h
 | k + 1, d, h0, h => by
   show LtP evs (iterD evs k (passD evs d))
   rw [passD_eq]
   exact iter_ltP k (passK_ok h0 _) (passK_ltP h0 h _)
theorem depths_ltP (evs : List Ev) : LtP evs (depthsE evs) := iter_ltP _ (OkD.zero evs) fun i e he hi => by
 rw [List.getD_eq_getElem?_getD, List.getElem?_replicate] at hi
 split at hi <;> simp at hi
end Go.Gm
end
end

section
namespace Go.Proofs.YtdldgbkdcpdbeaaGreat
open Go.Pm
open Go.Gm (LtD ltD StD srtD)
theorem drop_encI (z : List Int) (q : Nat) : ((z.map encI).getD q []).drop 1 = [] := by
 rw [List.getD_eq_getElem?_getD, List.getElem?_map]
 cases z[q]? <;> rfl
@[method_specs_simp] theorem set_encI (z : List Int) (q : Nat) (y : Int) : (z.map encI).set q (.int .i64 y :: ((z.map encI).getD q []).drop 1) = (z.set q y).map encI := by
 rw [drop_encI, List.map_set]; rfl
section
variable {P : Program} [Is P]
theorem wadd (a b : Nat) (h : a + b < 2 ^ 62) : IntKind.i64.wrap ((a : Int) + (b : Int)) = ((a + b : Nat) : Int) := by rw [wrap_id (by omega) (by omega)]; rfl
theorem wsub (a b : Nat) (h : a < 2 ^ 62) (h2 : b ≤ a) : IntKind.i64.wrap ((a : Int) - (b : Int)) = ((a - b : Nat) : Int) := by rw [wrap_id (by omega) (by omega)]; omega
theorem wadd1 (a : Nat) (h : a + 1 < 2 ^ 62) : IntKind.i64.wrap ((a : Int) + 1) = ((a + 1 : Nat) : Int) := wadd a 1 h
theorem wsub1 (a : Nat) (h : a < 2 ^ 62) (h2 : 1 ≤ a) : IntKind.i64.wrap ((a : Int) - 1) = ((a - 1 : Nat) : Int) := wsub a 1 h h2
theorem n_swapRange {l l' : List Int} {n a b k : Nat} {A X M Y B : List Int} (c : FuncId) (dl : List Int) (h : l = A ++ (X ++ (M ++ (Y ++ B)))) (h' : l' = A ++ (Y ++ (M ++ (X ++ B))))
   (ha : a = A.length) (hk : k = X.length) (hy : k = Y.length) (hb : b = a + k + M.length) (hn : n = l.length) (hlt : n < 2 ^ 60) :
   LCon P 204 [.ar 0 0 n, .int .i64 a, .int .i64 b, .int .i64 k, .fn c [] [.fptr [.sl 1 (dl.map encI)] 0]] [.arr true 1 (l.map encI)] (.tup []) [.arr true 1 (l'.map encI)] := by
 have hbk : b + k ≤ n := by rw [hn, h]; simp only [List.length_append]; omega
 refine LCon.of (n := 38) (rs := []) (Is.fn Tryz.func204) rfl (Is.call Tryz.call204) Tryz.results204 Tryz.ntmps204 ?_
 simp only [method_specs_simp, seval]
 refine SW.while (A := Nat × List Int) (fun p => ⟨pad 38 [.ar 0 0 n, .int .i64 a, .int .i64 b, .int .i64 k, .fn c [] [.fptr [.sl 1 (dl.map encI)] 0], .junk, .junk, .junk, .junk, .junk, .int .i64 p.1], [.arr true 1 (p.2.map encI)], [.ar 0 0 n, .eptr 0 1 0]⟩)
   (fun p => k - p.1) (fun p => p.1 ≤ k ∧ p.2.length = n ∧ p.2 = A ++ ((Y.take p.1 ++ X.drop p.1) ++ (M ++ ((X.take p.1 ++ Y.drop p.1) ++ B)))) (0, l) [0] ⟨Nat.zero_le _, hn.symm, h⟩ ?_ ?_
 · simp only [mvcgen_simp, method_specs_simp, seval]
   exact hn
 · rintro ⟨i, z⟩ ⟨hi, hzl, hz⟩
   simp only at hi hzl hz
   refine CW.sound ?_
   simp only [method_specs_simp, seval, hzl]
   refine gB_split (fun h1 => ?_) (fun h1 => ?_)
   · simp only [decide_eq_true_eq, Int.ofNat_lt] at h1
     obtain ⟨j, hj⟩ : ∃ j, j = b + i := ⟨_, rfl⟩
     obtain ⟨q, hq⟩ : ∃ q, q = a + i := ⟨_, rfl⟩
     have wj : IntKind.i64.wrap ((b : Int) + (i : Int)) = (j : Int) := by rw [hj]; exact wadd b i (by omega)
     have wq : IntKind.i64.wrap ((a : Int) + (i : Int)) = (q : Int) := by rw [hq]; exact wadd a i (by omega)
     have wi : IntKind.i64.wrap ((i : Int) + 1) = ((i + 1 : Nat) : Int) := wadd1 i (by omega)
     simp only [wj, wq]
     obtain ⟨x, hx1, hx2, hx3⟩ := Gm.drop_next (l := X) (i := i) (by omega)
     obtain ⟨y, hy1, hy2, hy3⟩ := Gm.drop_next (l := Y) (i := i) (by omega)
     have hz2 : z = (A ++ Y.take i) ++ x :: ((X.drop (i + 1) ++ (M ++ X.take i)) ++ y :: (Y.drop (i + 1) ++ B)) := by rw [hz, hx2, hy2]; simp only [List.append_assoc, List.cons_append]
     have lx : (X.take i).length = i := by rw [List.length_take]; omega
     have ly : (Y.take i).length = i := by rw [List.length_take]; omega
     obtain ⟨g1, g2, g3, _⟩ := Gm.two_get (i := q) (j := j) hz2 (by rw [List.length_append]; omega) (by simp only [List.length_append, List.length_drop]; omega)
     refine ⟨by kernel_rfl, by omega, by omega, ?_⟩
     simp only [method_specs_simp, seval, g1, g2, encI, wj, wq]
     refine ⟨by omega, by omega, by omega, by omega, by omega, by omega, ?_⟩
     rw [wi]
     refine ⟨by omega, by rw [List.length_set]; omega, ?_⟩
     refine Again.mk (i + 1, (z.set q y).set j x) [0] ⟨h1, by simp only [List.length_set]; exact hzl, ?_⟩ (Nat.sub_lt_sub_left h1 (Nat.lt_succ_self _)) ?_
     · show (z.set q y).set j x = A ++ ((Y.take (i + 1) ++ X.drop (i + 1)) ++ (M ++ ((X.take (i + 1) ++ Y.drop (i + 1)) ++ B)))
       rw [g3, hx3, hy3]
       simp only [List.append_assoc, List.cons_append, List.nil_append]
     · simp only [mvcgen_simp, method_specs_simp, seval]
   · have e : i = k := by simp only [decide_eq_false_iff_not, Bool.not_true, Int.ofNat_lt] at h1; omega
     have e2 : z = l' := by
       rw [hz, h', e, List.drop_eq_nil_of_le (by omega), List.drop_eq_nil_of_le (by omega), List.take_of_length_le (by omega), List.take_of_length_le (by omega)]
       simp only [List.append_nil]
     refine LResY.mk [0] ?_
     simp only [mvcgen_simp, method_specs_simp, seval, e2, hn]
theorem n_rotate {l l' : List Int} {n a m b : Nat} {A X Y B : List Int} (c : FuncId) (dl : List Int) (h : l = A ++ (X ++ (Y ++ B))) (h' : l' = A ++ (Y ++ (X ++ B)))
   (ha : a = A.length) (hm : m = a + X.length) (hb : b = m + Y.length) (hX : X ≠ []) (hY : Y ≠ []) (hn : n = l.length) (hlt : n < 2 ^ 60) :
   LCon P 192 [.ar 0 0 n, .int .i64 a, .int .i64 m, .int .i64 b, .fn c [] [.fptr [.sl 1 (dl.map encI)] 0]] [.arr true 1 (l.map encI)] (.tup []) [.arr true 1 (l'.map encI)] := by
 have hbn : b ≤ n := by rw [hn, h]; simp only [List.length_append]; omega
 have w1 : IntKind.i64.wrap ((m : Int) - (a : Int)) = (X.length : Int) := by rw [wsub m a (by omega) (by omega)]; omega
 have w2 : IntKind.i64.wrap ((b : Int) - (m : Int)) = (Y.length : Int) := by rw [wsub b m (by omega) (by omega)]; omega
 have x1 : 1 ≤ X.length := by cases X with | nil => exact absurd rfl hX | cons _ _ => simp
 have y1 : 1 ≤ Y.length := by cases Y with | nil => exact absurd rfl hY | cons _ _ => simp
 refine LCon.of (n := 58) (rs := []) (Is.fn Tryz.func192) rfl (Is.call Tryz.call192) Tryz.results192 Tryz.ntmps192 ?_
 simp only [method_specs_simp, seval, w1, w2]
 refine SW.while (A := Nat × Nat × List Int) (fun p => ⟨pad 58 [.ar 0 0 n, .int .i64 a, .int .i64 m, .int .i64 b, .fn c [] [.fptr [.sl 1 (dl.map encI)] 0], .junk, .junk, .junk, .junk, .junk, .int .i64 p.1, .int .i64 p.2.1], [.arr true 1 (p.2.2.map encI)], [.ar 0 0 n, .eptr 0 1 0]⟩)
   (fun p => p.1 + p.2.1) (fun p => 1 ≤ p.1 ∧ 1 ≤ p.2.1 ∧ p.2.2.length = n ∧ ∃ C D E F, p.2.2 = C ++ (D ++ (E ++ F)) ∧ l' = C ++ (E ++ (D ++ F)) ∧ p.1 = D.length ∧ p.2.1 = E.length ∧ m = C.length + p.1) (X.length, Y.length, l) [0]
   ⟨x1, y1, hn.symm, A, X, Y, B, h, h', rfl, rfl, by rw [hm, ha]⟩ ?_ ?_
 · simp only [mvcgen_simp, method_specs_simp, seval]
   exact hn
 · rintro ⟨i, j, z⟩ ⟨hi, hj, hzl, C, D, E, F, hz, hz', hD, hE, hm'⟩
   simp only at hi hj hzl hz hD hE hm'
   have hlen : z.length = C.length + (D.length + (E.length + F.length)) := by rw [hz]; simp only [List.length_append]
   have wi : IntKind.i64.wrap ((m : Int) - (i : Int)) = ((m - i : Nat) : Int) := wsub m i (by omega) (by omega)
   refine CW.sound ?_
   simp only [method_specs_simp, seval, hzl]
   by_cases hij : i = j
   · have hne : ((i : Int) != (j : Int)) = false := by rw [hij]; simp
     simp only [method_specs_simp, seval, hne, wi]
     refine clY.live [0] [] (n_swapRange (n := n) (a := m - i) (b := m) (k := i) (l := z) (l' := l') (A := C) (X := D) (M := []) (Y := E) (B := F) c dl hz hz' (by omega) hD (by omega) (by simp only [List.length_nil]; omega) hzl.symm hlt) ?_ (by simp) ?_
     · simp only [mvcgen_simp, method_specs_simp, seval]
     simp only [method_specs_simp, seval]
     refine LResY.mk [0] ?_
     simp only [mvcgen_simp, method_specs_simp, seval, hn]
   · have hne : ((i : Int) != (j : Int)) = true := by simp only [bne_iff_ne, ne_eq]; omega
     simp only [method_specs_simp, seval, hne]
     refine gB_split (fun h1 => ?_) (fun h1 => ?_)
     · simp only [decide_eq_true_eq, gt_iff_lt, Int.ofNat_lt] at h1
       have e1 : D = D.take j ++ D.drop j := (List.take_append_drop _ _).symm
       have l1 : (D.take j).length = j := by rw [List.length_take]; omega
       have l2 : (D.drop j).length = i - j := by rw [List.length_drop]; omega
       have wij : IntKind.i64.wrap ((i : Int) - (j : Int)) = ((i - j : Nat) : Int) := wsub i j (by omega) (by omega)
       rw [wi]
       refine clY.live [0] [] (n_swapRange (n := n) (a := m - i) (b := m) (k := j) (l := z) (l' := C ++ (E ++ (D.drop j ++ (D.take j ++ F)))) (A := C) (X := D.take j) (M := D.drop j) (Y := E) (B := F) c dl (by rw [hz, ← List.append_assoc (D.take j), ← e1]) rfl (by omega) l1.symm hE (by omega) hzl.symm hlt) ?_ (by simp) ?_
       · simp only [mvcgen_simp, method_specs_simp, seval]
       simp only [method_specs_simp, seval, wij]
       refine Again.mk (i - j, j, _) [0] ⟨by show 1 ≤ i - j; omega, hj, ?_, C ++ E, D.drop j, D.take j, F, by rw [List.append_assoc], ?_, l2.symm, l1.symm, ?_⟩ ?_ ?_
       · show (C ++ (E ++ (D.drop j ++ (D.take j ++ F)))).length = n
         simp only [List.length_append, l1, l2]; omega
       · rw [hz']
         conv => lhs; rw [e1]
         simp only [List.append_assoc]
       · show m = (C ++ E).length + (i - j)
         simp only [List.length_append]; omega
       · show i - j + j < i + j; omega
       · simp only [mvcgen_simp, method_specs_simp, seval]
     · simp only [decide_eq_false_iff_not, Bool.not_true, gt_iff_lt, Int.ofNat_lt] at h1
       have e1 : E = E.take (j - i) ++ E.drop (j - i) := (List.take_append_drop _ _).symm
       have l1 : (E.take (j - i)).length = j - i := by rw [List.length_take]; omega
       have l2 : (E.drop (j - i)).length = i := by rw [List.length_drop]; omega
       have wji : IntKind.i64.wrap ((j : Int) - (i : Int)) = ((j - i : Nat) : Int) := wsub j i (by omega) (by omega)
       have wmj : IntKind.i64.wrap (IntKind.i64.wrap ((m : Int) + (j : Int)) - (i : Int)) = ((m + j - i : Nat) : Int) := by rw [wadd m j (by omega)]; exact wsub (m + j) i (by omega) (by omega)
       rw [wi, wmj]
       refine clY.live [0] [] (n_swapRange (n := n) (a := m - i) (b := m + j - i) (k := i) (l := z) (l' := C ++ (E.drop (j - i) ++ (E.take (j - i) ++ (D ++ F)))) (A := C) (X := D) (M := E.take (j - i)) (Y := E.drop (j - i)) (B := F) c dl (by rw [hz, ← List.append_assoc (E.take (j - i)), ← e1]) rfl (by omega) hD l2.symm (by omega) hzl.symm hlt) ?_ (by simp) ?_
       · simp only [mvcgen_simp, method_specs_simp, seval]
       simp only [method_specs_simp, seval, wji]
       refine Again.mk (i, j - i, _) [0] ⟨hi, by show 1 ≤ j - i; omega, ?_, C, E.drop (j - i), E.take (j - i), D ++ F, rfl, ?_, l2.symm, l1.symm, hm'⟩ ?_ ?_
       · show (C ++ (E.drop (j - i) ++ (E.take (j - i) ++ (D ++ F)))).length = n
         simp only [List.length_append, l1, l2]; omega
       · rw [hz']
         conv => lhs; rw [e1]
         simp only [List.append_assoc]
       · show i + (j - i) < i + j; omega
       · simp only [mvcgen_simp, method_specs_simp, seval]
end
end Go.Proofs.YtdldgbkdcpdbeaaGreat
end

section
namespace Go.Proofs.YtdldgbkdcpdbeaaGreat
open Go.Pm
open Go.Gm (LtD ltD StD srtD)
section
variable {P : Program} [Is P]
theorem n_insert {l l' : List Int} {n a b : Nat} {A X B : List Int} {d : Int → Int} (c : FuncId) (dl : List Int) (hcmp : ∀ x ∈ X, ∀ y ∈ X, Con P c [.int .i64 x, .int .i64 y, .fptr [.sl 1 (dl.map encI)] 0] (.int .i64 (cmpI (d x) (d y))))
   (h : l = A ++ (X ++ B)) (h' : l' = A ++ (srtD d X ++ B)) (ha : a = A.length) (hb : b = a + X.length) (hs : StD d X) (hn : n = l.length) (hlt : n < 2 ^ 60) :
   LCon P 183 [.ar 0 0 n, .int .i64 a, .int .i64 b, .fn c [] [.fptr [.sl 1 (dl.map encI)] 0]] [.arr true 1 (l.map encI)] (.tup []) [.arr true 1 (l'.map encI)] := by
 have hbn : b ≤ n := by rw [hn, h]; simp only [List.length_append]; omega
 have wa : IntKind.i64.wrap ((a : Int) + 1) = ((a + 1 : Nat) : Int) := wadd1 a (by omega)
 refine LCon.of (n := 53) (rs := []) (Is.fn Tryz.func183) rfl (Is.call Tryz.call183) Tryz.results183 Tryz.ntmps183 ?_
 simp only [method_specs_simp, seval, wa]
 refine SW.while (A := Nat × List Int) (fun p => ⟨pad 53 [.ar 0 0 n, .int .i64 a, .int .i64 b, .fn c [] [.fptr [.sl 1 (dl.map encI)] 0], .junk, .junk, .junk, .junk, .int .i64 p.1], [.arr true 1 (p.2.map encI)], [.ar 0 0 n, .eptr 0 1 0]⟩)
   (fun p => b + 1 - p.1) (fun p => a + 1 ≤ p.1 ∧ (p.1 ≤ b ∨ p.1 = a + 1) ∧ p.2.length = n ∧ p.2 = A ++ (srtD d (X.take (p.1 - a)) ++ (X.drop (p.1 - a) ++ B))) (a + 1, l) [0] ⟨Nat.le_refl _, .inr rfl, hn.symm, ?_⟩ ?_ ?_
 · show l = A ++ (srtD d (X.take (a + 1 - a)) ++ (X.drop (a + 1 - a) ++ B))
   rw [h, show a + 1 - a = 1 by omega]
   cases X <;> rfl
 · simp only [mvcgen_simp, method_specs_simp, seval]
   try exact hn
 · rintro ⟨i, z⟩ ⟨hk1, hk2, hzl, hz⟩
   simp only at hk1 hk2 hzl hz
   obtain ⟨k, hk⟩ : ∃ k, k = i - a := ⟨_, rfl⟩
   rw [← hk] at hz
   refine CW.sound ?_
   simp only [method_specs_simp, seval, hzl]
   refine gB_split (fun h1 => ?_) (fun h1 => ?_)
   · simp only [decide_eq_true_eq, Int.ofNat_lt] at h1
     obtain ⟨x, hx1, hx2, hx3⟩ := Gm.drop_next (l := X) (i := k) (by omega)
     have hSl : (srtD d (X.take k)).length = k := by rw [Gm.srtD_len, List.length_take]; omega
     refine SW.while (A := Nat × List Int) (fun p => ⟨pad 53 [.ar 0 0 n, .int .i64 a, .int .i64 b, .fn c [] [.fptr [.sl 1 (dl.map encI)] 0], .junk, .junk, .junk, .junk, .int .i64 i, .int .i64 p.1], [.arr true 1 (p.2.map encI)], [.ar 0 0 n, .eptr 0 1 0]⟩)
       (fun p => p.1) (fun p => p.2.length = n ∧ ∃ S1 S2, srtD d (X.take k) = S1 ++ S2 ∧ p.2 = A ++ (S1 ++ x :: (S2 ++ (X.drop (k + 1) ++ B))) ∧ p.1 = a + S1.length ∧ ∀ y ∈ S2, LtD d x y) (i, z) [0] ⟨hzl, srtD d (X.take k), [], by simp, ?_, ?_, by simp⟩ ?_ ?_
     · show z = _
       rw [hz, hx2]; rfl
     · show i = a + (srtD d (X.take k)).length
       omega
     · simp only [mvcgen_simp, method_specs_simp, seval]
     · rintro ⟨j, z2⟩ ⟨hzl2, S1, S2, hS, hz2, hj, hS2⟩
       simp only at hzl2 hz2 hj
       have hS1 : S1.length + S2.length = k := by rw [← List.length_append, ← hS]; exact hSl
       have hsx : StD d (X.take (k + 1)) := hs.sub (List.take_sublist _ _)
       have hsS : (S1 ++ S2).Pairwise (LtD d) := by rw [← hS]; exact Gm.srtD_sorted (hs.sub (List.take_sublist _ _)).nodup
       have hmem : ∀ y ∈ S1 ++ S2, y ∈ X.take k := fun y hy => (Gm.srtD_perm d _).subset (by rw [hS]; exact hy)
       have fin : (∀ y ∈ S1, LtD d y x) → S1 ++ x :: S2 = srtD d (X.take (k + 1)) := fun h1 => by
         refine Gm.srtD_of ?_ ?_
         · rw [hx3]
           refine List.perm_middle.trans (((Gm.srtD_perm d (X.take k)).symm.trans (by rw [hS])).symm.cons x |>.trans ?_)
           exact (List.perm_append_singleton x _).symm
         · have hp := List.pairwise_append.1 hsS
           refine List.pairwise_append.2 ⟨hp.1, List.pairwise_cons.2 ⟨hS2, hp.2.1⟩, fun y hy z hz => ?_⟩
           rcases List.mem_cons.1 hz with rfl | hz
           · exact h1 y hy
           · exact hp.2.2 y hy z hz
       have fin2 : (∀ y ∈ S1, LtD d y x) → z2 = A ++ (srtD d (X.take (i + 1 - a)) ++ (X.drop (i + 1 - a) ++ B)) := fun h1 => by
         rw [hz2, show i + 1 - a = k + 1 by omega, ← fin h1]
         simp only [List.append_assoc, List.cons_append]
       have wi : IntKind.i64.wrap ((i : Int) + 1) = ((i + 1 : Nat) : Int) := wadd1 i (by omega)
       refine CW.sound ?_
       simp only [method_specs_simp, seval, hzl2, wi]
       refine ⟨by kernel_rfl, ?_⟩
       refine gB_split (fun h2 => ?_) (fun h2 => ?_)
       · simp only [decide_eq_true_eq, gt_iff_lt, Int.ofNat_lt] at h2
         obtain ⟨S3, y, rfl⟩ : ∃ S3 y, S1 = S3 ++ [y] := by
           rcases List.eq_nil_or_concat S1 with rfl | ⟨S3, y, rfl⟩
           · simp at hj; omega
           · exact ⟨S3, y, by simp⟩
         rw [List.length_append, List.length_singleton] at hj hS1
         have hz3 : z2 = (A ++ S3) ++ y :: ([] ++ x :: (S2 ++ (X.drop (k + 1) ++ B))) := by rw [hz2]; simp only [List.append_assoc, List.cons_append, List.nil_append]
         obtain ⟨q, hq⟩ : ∃ q, q = j - 1 := ⟨_, rfl⟩
         have wq : IntKind.i64.wrap ((j : Int) - 1) = (q : Int) := by rw [hq]; exact wsub1 j (by omega) (by omega)
         obtain ⟨g1, g2, _, g3⟩ := Gm.two_get (i := q) (j := j) hz3 (by rw [List.length_append]; omega) (by simp only [List.length_append, List.length_nil]; omega)
         have hyX : y ∈ X.take k := hmem y (by simp)
         refine ⟨by omega, by omega, ?_⟩
         simp only [method_specs_simp, seval, g1, g2, encI, wq]
         refine ⟨by omega, by omega, ?_⟩
         have hc0 := hcmp x (List.mem_of_getElem? hx1) y (List.mem_of_mem_take hyX)
         have hle : decide (cmpI (d x) (d y) < 0) = ltD d x y := by
           rw [← Gm.behind (x := y) (y := x)]
           · unfold cmpI
             split
             · rename_i h5; simp [h5]
             · rename_i h5
               split <;> simp [h5]
           · intro he
             rw [hx3] at hsx
             exact (List.pairwise_append.1 hsx).2.2 y hyX x (by simp) he
         refine clY.conC hc0 rfl (by simp only [method_specs_simp]) ?_
         simp only [method_specs_simp, seval, hle, wq]
         refine gB_split (fun h5 => ?_) (fun h5 => ?_)
         · refine ⟨by kernel_rfl, by omega, by omega, ?_⟩
           simp only [method_specs_simp, seval, g1, g2, encI, wq]
           refine ⟨by omega, by omega, by omega, by omega, by omega, by omega, by omega, by (try rw [List.length_set]); omega, ?_⟩
           refine Again.mk (q, (z2.set j y).set q x) [0] ⟨by simp only [List.length_set]; exact hzl2, S3, y :: S2, hS.trans (by simp), ?_, ?_, ?_⟩ (by show q < j; omega) ?_
           · show (z2.set j y).set q x = _
             rw [g3]
             simp only [List.append_assoc, List.cons_append, List.nil_append]
           · show q = a + S3.length; omega
           · intro y' hy'
             rcases List.mem_cons.1 hy' with rfl | hy'
             · exact h5
             · exact hS2 y' hy'
           · simp only [mvcgen_simp, method_specs_simp, seval]
         · have hlast : ∀ y' ∈ S3 ++ [y], LtD d y' x := by
             have hyx : LtD d y x := Gm.ltD_tot (fun e => by
               rw [hx3] at hsx
               have := (List.pairwise_append.1 hsx).2.2 y hyX x (by simp) (by rw [e])
               omega) (by unfold LtD; rw [h5]; decide)
             intro y' hy'
             rcases List.mem_append.1 hy' with hy' | hy'
             · have hp := List.pairwise_append.1 (List.pairwise_append.1 hsS).1
               exact (Gm.ltD_str d).tr _ _ _ (hp.2.2 y' hy' y (by simp)) hyx
             · simp only [List.mem_cons, List.not_mem_nil, or_false] at hy'
               rw [hy']; exact hyx
           rw [wi]
           refine Again.mk (i + 1, z2) [0] ⟨by show a + 1 ≤ i + 1; omega, .inl (by show i + 1 ≤ b; omega), hzl2, fin2 hlast⟩ (by show b + 1 - (i + 1) < b + 1 - i; omega) ?_
           simp only [mvcgen_simp, method_specs_simp, seval]
       · have hn0 : S1 = [] := by
           simp only [decide_eq_false_iff_not, Bool.not_true, gt_iff_lt, Int.ofNat_lt] at h2
           exact List.eq_nil_of_length_eq_zero (by omega)
         refine Again.mk (i + 1, z2) [0] ⟨by show a + 1 ≤ i + 1; omega, .inl (by show i + 1 ≤ b; omega), hzl2, fin2 (by rw [hn0]; simp)⟩ (by show b + 1 - (i + 1) < b + 1 - i; omega) ?_
         simp only [mvcgen_simp, method_specs_simp, seval]
   · have e2 : z = l' := by
       simp only [decide_eq_false_iff_not, Bool.not_true, Int.ofNat_lt] at h1
       rw [hz, h', List.take_of_length_le (by omega), List.drop_eq_nil_of_le (by omega)]; rfl
     refine LResY.mk [0] ?_
     simp only [mvcgen_simp, method_specs_simp, seval, e2, hn]
end
end Go.Proofs.YtdldgbkdcpdbeaaGreat
end

section
namespace Go.Proofs.YtdldgbkdcpdbeaaGreat
open Go.Pm
open Go.Gm (LtD ltD StD srtD)
set_option maxHeartbeats 4000000
structure MG (P : Program) (d : Int → Int) (c : FuncId) (dl : List Int) (l l' : List Int) (n a m b : Nat) (A L R B : List Int) : Prop where
 h : l = A ++ (L ++ (R ++ B))
 h' : l' = A ++ (srtD d (L ++ R) ++ B)
 ha : a = A.length
 hm : m = a + L.length
 hb : b = m + R.length
 l1 : 1 ≤ L.length
 r1 : 1 ≤ R.length
 hL : L.Pairwise (LtD d)
 hR : R.Pairwise (LtD d)
 hs : StD d (L ++ R)
 hc : ∀ x ∈ L ++ R, ∀ y ∈ L ++ R, Con P c [.int .i64 x, .int .i64 y, .fptr [.sl 1 (dl.map encI)] 0] (.int .i64 (cmpI (d x) (d y)))
 hn : n = l.length
 hlt : n < 2 ^ 60
theorem MG.cmp {P : Program} {d : Int → Int} {c : FuncId} {dl l l' : List Int} {n a m b : Nat} {A L R B : List Int} (g : MG P d c dl l l' n a m b A L R B) {x y : Int} (hx : x ∈ L) (hy : y ∈ R) : decide (cmpI (d y) (d x) < 0) = ltD d y x := by
 have h2 : d x = d y → x < y := (List.pairwise_append.1 g.hs).2.2 x hx y hy
 rw [← Gm.behind h2]
 unfold cmpI
 split
 · rename_i h5; simp [h5]
 · rename_i h5
   split <;> simp [h5]
theorem MG.bn {P : Program} {d : Int → Int} {c : FuncId} {dl l l' : List Int} {n a m b : Nat} {A L R B : List Int} (g : MG P d c dl l l' n a m b A L R B) : b ≤ n := by
 have := g.ha; have := g.hm; have := g.hb
 rw [g.hn, g.h]; simp only [List.length_append]; omega
section
variable {P : Program} [Is P]
theorem mid_at (i j : Nat) (h : i + j < 2 ^ 62) : IntKind.i64.wrap ((IntKind.u64.wrap (IntKind.i64.wrap ((i : Int) + (j : Int)))).fdiv (2 ^ min 1 IntKind.u64.bits)) = (((i + j) / 2 : Nat) : Int) := by
 have e1 : IntKind.i64.wrap ((i : Int) + j) = (i : Int) + j := wrap_id (by omega) (by omega)
 have e2 : IntKind.u64.wrap ((i : Int) + j) = (i : Int) + j := by simp [IntKind.wrap, IntKind.bits, IntKind.signed]; omega
 have e3 : ((i : Int) + j).fdiv (2 ^ min 1 IntKind.u64.bits) = (((i + j) / 2 : Nat) : Int) := by
   simp only [IntKind.bits]
   rw [Int.fdiv_eq_ediv_of_nonneg _ (by decide)]
   show ((i : Int) + j) / 2 = _
   omega
 rw [e1, e2, e3]
 exact wrap_id (by omega) (by omega)
theorem n_sym1 {d : Int → Int} (c : FuncId) (dl : List Int) {l l' : List Int} {n a m b : Nat} {A L R B : List Int} (g : MG P d c dl l l' n a m b A L R B) (c1 : L.length = 1) :
   LCon P 184 [.ar 0 0 n, .int .i64 a, .int .i64 m, .int .i64 b, .fn c [] [.fptr [.sl 1 (dl.map encI)] 0]] [.arr true 1 (l.map encI)] (.tup []) [.arr true 1 (l'.map encI)] := by
   have bn := g.bn
   have e1 := g.ha
   have e2 := g.hm
   have e3 := g.hb
   have e4 := g.hlt
   have w1 : IntKind.i64.wrap ((m : Int) - (a : Int)) = (L.length : Int) := by rw [wsub m a (by omega) (by omega)]; omega
   have w2 : IntKind.i64.wrap ((b : Int) - (m : Int)) = (R.length : Int) := by rw [wsub b m (by omega) (by omega)]; omega
   refine LCon.of (n := 220) (rs := []) (Is.fn Tryz.func184) rfl (Is.call Tryz.call184) Tryz.results184 Tryz.ntmps184 ?_
   simp only [method_specs_simp, seval, w1, w2]
   have d1 : ((L.length : Int) == 1) = true := by rw [c1]; rfl
   simp only [method_specs_simp, seval, d1]
   obtain ⟨x, rfl⟩ : ∃ x, L = [x] := by
     match L, c1 with
     | [x], _ => exact ⟨x, rfl⟩
   have hln := g.hn.symm
   have hlx : l[a]? = some x := by rw [g.h, e1]; exact Gm.get_mid _ _ _
   refine SW.while (A := Nat × Nat) (fun p => ⟨pad 220 [.ar 0 0 n, .int .i64 a, .int .i64 m, .int .i64 b, .fn c [] [.fptr [.sl 1 (dl.map encI)] 0], .junk, .junk, .junk, .junk, .junk, .int .i64 p.1, .int .i64 p.2], [.arr true 1 (l.map encI)], [.ar 0 0 n, .eptr 0 1 0]⟩)
     (fun p => p.2 - p.1) (fun p => m ≤ p.1 ∧ p.1 ≤ p.2 ∧ p.2 ≤ b ∧ (p.1 = m ∨ ∃ y, R[p.1 - 1 - m]? = some y ∧ LtD d y x) ∧ (p.2 = b ∨ ∃ y, R[p.2 - m]? = some y ∧ LtD d x y)) (m, b) [0] ⟨Nat.le_refl _, by show m ≤ b; omega, Nat.le_refl _, .inl rfl, .inl rfl⟩ ?_ ?_
   · simp only [mvcgen_simp, method_specs_simp, seval]
     try exact hln.symm
   · rintro ⟨i, j⟩ ⟨hi, hij, hj, p1, p2⟩
     simp only at hi hij hj p1 p2
     refine CW.sound ?_
     simp only [method_specs_simp, seval, hln]
     refine gB_split (fun h1 => ?_) (fun h1 => ?_)
     · simp only [decide_eq_true_eq, Int.ofNat_lt] at h1
       obtain ⟨k, hk⟩ : ∃ k, k = (i + j) / 2 := ⟨_, rfl⟩
       have wk : IntKind.i64.wrap ((IntKind.u64.wrap (IntKind.i64.wrap ((i : Int) + (j : Int)))).fdiv (2 ^ min 1 IntKind.u64.bits)) = (k : Int) := by rw [hk]; exact mid_at i j (by omega)
       have wk1 : IntKind.i64.wrap ((k : Int) + 1) = ((k + 1 : Nat) : Int) := wadd1 k (by omega)
       obtain ⟨y, hy⟩ : ∃ y, R[k - m]? = some y := ⟨_, List.getElem?_eq_getElem (by omega)⟩
       have hly : l[k]? = some y := by
         rw [g.h, List.getElem?_append_right (by omega), List.getElem?_append_right (by simp only [List.length_singleton]; simp only [List.length_singleton] at e2; omega), List.getElem?_append_left (by simp only [List.length_singleton] at e2 ⊢; omega), ← hy]
         congr 1
         simp only [List.length_singleton] at e2 ⊢; omega
       simp only [wk]
       refine ⟨by kernel_rfl, by omega, by omega, ?_⟩
       simp only [method_specs_simp, seval, hly, hlx, encI, wk]
       refine ⟨by omega, by omega, ?_⟩
       have hyR : y ∈ R := List.mem_of_getElem? hy
       have hle := g.cmp (x := x) (y := y) (by simp) hyR
       refine clY.conC (g.hc y (by simp [hyR]) x (by simp)) rfl (by simp only [method_specs_simp]) ?_
       simp only [method_specs_simp, seval, hle, wk1]
       refine gB_split (fun h2 => ?_) (fun h2 => ?_)
       · refine Again.mk (k + 1, j) [0] ⟨by show m ≤ k + 1; omega, by show k + 1 ≤ j; omega, hj, .inr ⟨y, by show R[k + 1 - 1 - m]? = some y; rw [← hy, Nat.add_sub_cancel], h2⟩, p2⟩ (by show j - (k + 1) < j - i; omega) ?_
         simp only [mvcgen_simp, method_specs_simp, seval]
       · have hne : x ≠ y := fun e => by
           have hnd := g.hs.nodup
           rw [List.nodup_append] at hnd
           exact hnd.2.2 x (by simp) y hyR e
         refine Again.mk (i, k) [0] ⟨hi, by show i ≤ k; omega, by show k ≤ b; omega, p1, .inr ⟨y, hy, Gm.ltD_tot (fun e => hne e.symm) (by unfold LtD; rw [h2]; decide)⟩⟩ (by show k - i < j - i; omega) ?_
         simp only [mvcgen_simp, method_specs_simp, seval]
     · have hij2 : i = j := by simp only [decide_eq_false_iff_not, Bool.not_true, Int.ofNat_lt] at h1; omega
       subst hij2
       simp only [List.length_singleton] at e2
       obtain ⟨t, ht⟩ : ∃ t, t = i - m := ⟨_, rfl⟩
       obtain ⟨u, hu⟩ : ∃ u, u = a + t := ⟨_, rfl⟩
       have wt : IntKind.i64.wrap ((i : Int) - 1) = (u : Int) := by rw [wsub1 i (by omega) (by omega)]; congr 1; omega
       have c2 := Gm.cut_one g.hR (x := x) (t := t) (p1.elim (fun h => .inl (by omega)) fun ⟨y, h3, h4⟩ => .inr ⟨y, by rw [← h3]; congr 1; omega, h4⟩) (p2.elim (fun h => .inl (by omega)) fun ⟨y, h3, h4⟩ => .inr ⟨y, by rw [← h3]; congr 1, h4⟩)
       have hfin : l' = A ++ ((R.take t ++ x :: R.drop t) ++ B) := by rw [g.h', ← Gm.srtD_of (l := [x] ++ R) c2.2 c2.1]
       refine SW.while (A := Nat × List Int) (fun p => ⟨pad 220 [.ar 0 0 n, .int .i64 a, .int .i64 m, .int .i64 b, .fn c [] [.fptr [.sl 1 (dl.map encI)] 0], .junk, .junk, .junk, .junk, .junk, .int .i64 i, .junk, .junk, .int .i64 p.1], [.arr true 1 (p.2.map encI)], [.ar 0 0 n, .eptr 0 1 0]⟩)
         (fun p => b - p.1) (fun p => p.2.length = n ∧ a ≤ p.1 ∧ p.1 ≤ u ∧ p.2 = A ++ (R.take (p.1 - a) ++ x :: (R.drop (p.1 - a) ++ B))) (a, l) [0] ⟨hln, Nat.le_refl _, by show a ≤ u; omega, by show l = A ++ (R.take (a - a) ++ x :: (R.drop (a - a) ++ B)); rw [g.h, Nat.sub_self]; rfl⟩ ?_ ?_
       · simp only [mvcgen_simp, method_specs_simp, seval]
       · rintro ⟨k, z⟩ ⟨hzl, hka, hkt, hz⟩
         simp only at hzl hka hkt hz
         refine CW.sound ?_
         simp only [method_specs_simp, seval, hzl, wt]
         refine gB_split (fun h3 => ?_) (fun h3 => ?_)
         · simp only [decide_eq_true_eq, Int.ofNat_lt] at h3
           obtain ⟨q, hq⟩ : ∃ q, q = k - a := ⟨_, rfl⟩
           rw [← hq] at hz
           obtain ⟨y, hy1, hy2, hy3⟩ := Gm.drop_next (l := R) (i := q) (by omega)
           obtain ⟨k1, hk1⟩ : ∃ k1, k1 = k + 1 := ⟨_, rfl⟩
           have wk : IntKind.i64.wrap ((k : Int) + 1) = (k1 : Int) := by rw [hk1]; exact wadd1 k (by omega)
           have lq : (R.take q).length = q := by rw [List.length_take]; omega
           have hz3 : z = (A ++ R.take q) ++ x :: ([] ++ y :: (R.drop (q + 1) ++ B)) := by rw [hz, hy2]; simp only [List.append_assoc, List.cons_append, List.nil_append]
           obtain ⟨g1, g2, g3, _⟩ := Gm.two_get (i := k) (j := k1) hz3 (by rw [List.length_append]; omega) (by simp only [List.length_append, List.length_nil]; omega)
           simp only [method_specs_simp, seval, wk]
           refine ⟨by kernel_rfl, by omega, by omega, ?_⟩
           simp only [method_specs_simp, seval, g1, g2, encI, wk]
           refine ⟨by omega, by omega, by omega, by omega, by omega, by omega, by omega, by rw [List.length_set]; omega, ?_⟩
           refine Again.mk (k1, (z.set k y).set k1 x) [0] ⟨by simp only [List.length_set]; exact hzl, by show a ≤ k1; omega, by show k1 ≤ u; omega, ?_⟩ (by show b - k1 < b - k; omega) ?_
           · show (z.set k y).set k1 x = A ++ (R.take (k1 - a) ++ x :: (R.drop (k1 - a) ++ B))
             rw [g3, show k1 - a = q + 1 by omega, hy3]
             simp only [List.append_assoc, List.cons_append, List.nil_append]
           · simp only [mvcgen_simp, method_specs_simp, seval]
         · have : k = u := by simp only [decide_eq_false_iff_not, Bool.not_true, Int.ofNat_lt] at h3; omega
           have e9 : z = l' := by
             rw [hz, hfin, show k - a = t by omega]
             simp only [List.append_assoc, List.cons_append]
           refine LResY.mk [0] ?_
           simp only [mvcgen_simp, method_specs_simp, seval, e9, hln]
theorem n_sym2 {d : Int → Int} (c : FuncId) (dl : List Int) {l l' : List Int} {n a m b : Nat} {A L R B : List Int} (g : MG P d c dl l l' n a m b A L R B) (c1 : L.length ≠ 1) (c2 : R.length = 1) :
   LCon P 184 [.ar 0 0 n, .int .i64 a, .int .i64 m, .int .i64 b, .fn c [] [.fptr [.sl 1 (dl.map encI)] 0]] [.arr true 1 (l.map encI)] (.tup []) [.arr true 1 (l'.map encI)] := by
   have bn := g.bn
   have e1 := g.ha
   have e2 := g.hm
   have e3 := g.hb
   have e4 := g.hlt
   have w1 : IntKind.i64.wrap ((m : Int) - (a : Int)) = (L.length : Int) := by rw [wsub m a (by omega) (by omega)]; omega
   have w2 : IntKind.i64.wrap ((b : Int) - (m : Int)) = (R.length : Int) := by rw [wsub b m (by omega) (by omega)]; omega
   refine LCon.of (n := 220) (rs := []) (Is.fn Tryz.func184) rfl (Is.call Tryz.call184) Tryz.results184 Tryz.ntmps184 ?_
   simp only [method_specs_simp, seval, w1, w2]
   have d1 : ((L.length : Int) == 1) = false := by rw [beq_eq_false_iff_ne]; omega
   have d2 : ((R.length : Int) == 1) = true := by rw [c2]; rfl
   simp only [method_specs_simp, seval, d1, w2, d2]
   obtain ⟨x, rfl⟩ : ∃ x, R = [x] := by
     match R, c2 with
     | [x], _ => exact ⟨x, rfl⟩
   have hln := g.hn.symm
   have hlx : l[m]? = some x := by
     rw [g.h, List.getElem?_append_right (by omega), List.getElem?_append_right (by omega), show m - A.length - L.length = 0 by omega]; rfl
   refine SW.while (A := Nat × Nat) (fun p => ⟨pad 220 [.ar 0 0 n, .int .i64 a, .int .i64 m, .int .i64 b, .fn c [] [.fptr [.sl 1 (dl.map encI)] 0], .junk, .junk, .junk, .junk, .junk, .junk, .junk, .junk, .junk, .int .i64 p.1, .int .i64 p.2], [.arr true 1 (l.map encI)], [.ar 0 0 n, .eptr 0 1 0]⟩)
     (fun p => p.2 - p.1) (fun p => a ≤ p.1 ∧ p.1 ≤ p.2 ∧ p.2 ≤ m ∧ (p.1 = a ∨ ∃ y, L[p.1 - 1 - a]? = some y ∧ LtD d y x) ∧ (p.2 = m ∨ ∃ y, L[p.2 - a]? = some y ∧ LtD d x y)) (a, m) [0] ⟨Nat.le_refl _, by show a ≤ m; omega, Nat.le_refl _, .inl rfl, .inl rfl⟩ ?_ ?_
   · simp only [mvcgen_simp, method_specs_simp, seval]
     try exact hln.symm
   · rintro ⟨i, j⟩ ⟨hi, hij, hj, p1, p2⟩
     simp only at hi hij hj p1 p2
     refine CW.sound ?_
     simp only [method_specs_simp, seval, hln]
     refine gB_split (fun h1 => ?_) (fun h1 => ?_)
     · simp only [decide_eq_true_eq, Int.ofNat_lt] at h1
       obtain ⟨k, hk⟩ : ∃ k, k = (i + j) / 2 := ⟨_, rfl⟩
       have wk : IntKind.i64.wrap ((IntKind.u64.wrap (IntKind.i64.wrap ((i : Int) + (j : Int)))).fdiv (2 ^ min 1 IntKind.u64.bits)) = (k : Int) := by rw [hk]; exact mid_at i j (by omega)
       have wk1 : IntKind.i64.wrap ((k : Int) + 1) = ((k + 1 : Nat) : Int) := wadd1 k (by omega)
       obtain ⟨y, hy⟩ : ∃ y, L[k - a]? = some y := ⟨_, List.getElem?_eq_getElem (by omega)⟩
       have hly : l[k]? = some y := by
         rw [g.h, List.getElem?_append_right (by omega), List.getElem?_append_left (by omega), ← hy, e1]
       simp only [wk]
       refine ⟨by kernel_rfl, by omega, by omega, ?_⟩
       simp only [method_specs_simp, seval, hly, hlx, encI, wk]
       refine ⟨by omega, by omega, ?_⟩
       have hyL : y ∈ L := List.mem_of_getElem? hy
       have hle := g.cmp (x := y) (y := x) hyL (by simp)
       refine clY.conC (g.hc x (by simp) y (by simp [hyL])) rfl (by simp only [method_specs_simp]) ?_
       simp only [method_specs_simp, seval, hle, wk1]
       cases h2 : ltD d x y
       · have hne : y ≠ x := fun e => by
           have hnd := g.hs.nodup
           rw [List.nodup_append] at hnd
           exact hnd.2.2 y hyL x (by simp) e
         simp only [method_specs_simp, seval, h2, wk1]
         refine Again.mk (k + 1, j) [0] ⟨by show a ≤ k + 1; omega, by show k + 1 ≤ j; omega, hj, .inr ⟨y, by show L[k + 1 - 1 - a]? = some y; rw [← hy, Nat.add_sub_cancel], Gm.ltD_tot (fun e => hne e.symm) (by unfold LtD; rw [h2]; decide)⟩, p2⟩ (by show j - (k + 1) < j - i; omega) ?_
         simp only [mvcgen_simp, method_specs_simp, seval]
       · simp only [method_specs_simp, seval, h2, wk1]
         refine Again.mk (i, k) [0] ⟨hi, by show i ≤ k; omega, by show k ≤ m; omega, p1, .inr ⟨y, hy, h2⟩⟩ (by show k - i < j - i; omega) ?_
         simp only [mvcgen_simp, method_specs_simp, seval]
     · have hij2 : i = j := by simp only [decide_eq_false_iff_not, Bool.not_true, Int.ofNat_lt] at h1; omega
       subst hij2
       obtain ⟨t, ht⟩ : ∃ t, t = i - a := ⟨_, rfl⟩
       have c3 := Gm.cut_one g.hL (x := x) (t := t) (p1.elim (fun h => .inl (by omega)) fun ⟨y, h3, h4⟩ => .inr ⟨y, by rw [← h3]; congr 1; omega, h4⟩) (p2.elim (fun h => .inl (by omega)) fun ⟨y, h3, h4⟩ => .inr ⟨y, by rw [← h3]; congr 1, h4⟩)
       have hfin : l' = A ++ ((L.take t ++ x :: L.drop t) ++ B) := by rw [g.h', ← Gm.srtD_of (l := L ++ [x]) (c3.2.trans (List.perm_append_singleton x L).symm) c3.1]
       refine SW.while (A := Nat × List Int) (fun p => ⟨pad 220 [.ar 0 0 n, .int .i64 a, .int .i64 m, .int .i64 b, .fn c [] [.fptr [.sl 1 (dl.map encI)] 0], .junk, .junk, .junk, .junk, .junk, .junk, .junk, .junk, .junk, .int .i64 i, .junk, .junk, .int .i64 p.1], [.arr true 1 (p.2.map encI)], [.ar 0 0 n, .eptr 0 1 0]⟩)
         (fun p => p.1) (fun p => p.2.length = n ∧ i ≤ p.1 ∧ p.1 ≤ m ∧ p.2 = A ++ (L.take (p.1 - a) ++ x :: (L.drop (p.1 - a) ++ B))) (m, l) [0] ⟨hln, by show i ≤ m; omega, Nat.le_refl _, by show l = A ++ (L.take (m - a) ++ x :: (L.drop (m - a) ++ B)); rw [g.h, List.take_of_length_le (by omega), List.drop_eq_nil_of_le (by omega)]; rfl⟩ ?_ ?_
       · simp only [mvcgen_simp, method_specs_simp, seval]
       · rintro ⟨k, z⟩ ⟨hzl, hka, hkt, hz⟩
         simp only at hzl hka hkt hz
         refine CW.sound ?_
         simp only [method_specs_simp, seval, hzl]
         refine gB_split (fun h3 => ?_) (fun h3 => ?_)
         · simp only [decide_eq_true_eq, gt_iff_lt, Int.ofNat_lt] at h3
           obtain ⟨k1, hk1⟩ : ∃ k1, k1 = k - 1 := ⟨_, rfl⟩
           obtain ⟨q, hq⟩ : ∃ q, q = k1 - a := ⟨_, rfl⟩
           obtain ⟨y, hy1, hy2, hy3⟩ := Gm.drop_next (l := L) (i := q) (by omega)
           rw [show k - a = q + 1 by omega, hy3] at hz
           have wk : IntKind.i64.wrap ((k : Int) - 1) = (k1 : Int) := by rw [hk1]; exact wsub1 k (by omega) (by omega)
           have lq : (L.take q).length = q := by rw [List.length_take]; omega
           have hz3 : z = (A ++ L.take q) ++ y :: ([] ++ x :: (L.drop (q + 1) ++ B)) := by rw [hz]; simp only [List.append_assoc, List.cons_append, List.nil_append]
           obtain ⟨g1, g2, _, g3⟩ := Gm.two_get (i := k1) (j := k) hz3 (by rw [List.length_append]; omega) (by simp only [List.length_append, List.length_nil]; omega)
           simp only [method_specs_simp, seval, wk]
           refine ⟨by kernel_rfl, by omega, by omega, ?_⟩
           simp only [method_specs_simp, seval, g1, g2, encI, wk]
           refine ⟨by omega, by omega, by omega, by omega, by omega, by omega, by omega, by rw [List.length_set]; omega, ?_⟩
           refine Again.mk (k1, (z.set k y).set k1 x) [0] ⟨by simp only [List.length_set]; exact hzl, by show i ≤ k1; omega, by show k1 ≤ m; omega, ?_⟩ (by show k1 < k; omega) ?_
           · show (z.set k y).set k1 x = A ++ (L.take (k1 - a) ++ x :: (L.drop (k1 - a) ++ B))
             rw [g3, ← hq, hy2]
             simp only [List.append_assoc, List.cons_append, List.nil_append]
           · simp only [mvcgen_simp, method_specs_simp, seval]
         · have : k = i := by simp only [decide_eq_false_iff_not, Bool.not_true, gt_iff_lt, Int.ofNat_lt] at h3; omega
           have e9 : z = l' := by
             rw [hz, hfin, show k - a = t by omega]
             simp only [List.append_assoc, List.cons_append]
           refine LResY.mk [0] ?_
           simp only [mvcgen_simp, method_specs_simp, seval, e9, hln]
end
end Go.Proofs.YtdldgbkdcpdbeaaGreat
end

section
namespace Go.Proofs.YtdldgbkdcpdbeaaGreat
open Go.Pm
open Go.Gm (LtD ltD StD srtD)
set_option maxHeartbeats 4000000
def OrH (p q : Prop) : Prop := p ∨ q
theorem OrH.el {p q r : Prop} (h : OrH p q) (h1 : p → r) (h2 : q → r) : r := Or.elim h h1 h2
theorem orH {p q : Prop} (h : p ∨ q) : OrH p q := h
structure Lin (p : Prop) : Prop where
 h : p
theorem sym_start {a b m mid nn x y : Nat} (e2 : m = a + x) (e3 : b = m + y) (hmid : mid = (a + b) / 2) (hnn : nn = mid + m) (l2 : 2 ≤ x) (r2 : 2 ≤ y) :
   ∃ lo hi pp, nn = pp + 1 ∧ a ≤ lo ∧ lo ≤ hi ∧ hi ≤ m ∧ hi ≤ mid ∧ mid ≤ lo + y ∧ OrH (lo = a) (mid = lo + y) ∧ OrH (hi = m) (hi = mid) ∧ OrH (mid < m ∧ nn = b + lo ∧ hi = mid) (¬ mid < m ∧ lo = a ∧ hi = m) := by
 by_cases h : mid < m
 · exact ⟨nn - b, mid, nn - 1, by omega, by omega, by omega, by omega, by omega, by omega, orH (by omega), orH (by omega), .inl ⟨h, by omega, rfl⟩⟩
 · exact ⟨a, m, nn - 1, by omega, by omega, by omega, by omega, by omega, by omega, orH (by omega), orH (by omega), .inr ⟨h, rfl, rfl⟩⟩
structure SI (d : Int → Int) (L R : List Int) (a mid lo hi i j : Nat) : Prop where
 h1 : lo ≤ i
 h2 : i ≤ j
 h3 : j ≤ hi
 p1 : i = lo ∨ ∃ x y, L[i - 1 - a]? = some x ∧ R[mid - i]? = some y ∧ LtD d x y
 p2 : j = hi ∨ ∃ x y, L[j - a]? = some x ∧ R[mid - 1 - j]? = some y ∧ LtD d y x
theorem sym_probe {P : Program} {d : Int → Int} {c : FuncId} {dl l l' : List Int} {n a m b : Nat} {A L R B : List Int} (g : MG P d c dl l l' n a m b A L R B) {mid nn pp lo hi i j : Nat}
   (hmid : mid = (a + b) / 2) (hnn : nn = mid + m) (hpp : nn = pp + 1) (f1 : a ≤ lo) (f3 : hi ≤ m) (f4 : hi ≤ mid) (f5 : mid ≤ lo + R.length) (hs : SI d L R a mid lo hi i j) (hij : i < j) :
   ∃ (k v : Nat) (x y : Int), IntKind.i64.wrap ((IntKind.u64.wrap (IntKind.i64.wrap ((i : Int) + (j : Int)))).fdiv (2 ^ min 1 IntKind.u64.bits)) = (k : Int) ∧ IntKind.i64.wrap ((k : Int) + 1) = ((k + 1 : Nat) : Int) ∧ IntKind.i64.wrap ((pp : Int) - (k : Int)) = (v : Int) ∧
     l[k]? = some x ∧ l[v]? = some y ∧ x ∈ L ∧ y ∈ R ∧ (0 : Int) ≤ k ∧ (k : Int) < n ∧ (0 : Int) ≤ v ∧ (v : Int) < n ∧ k - i < j - i ∧ j - (k + 1) < j - i ∧ (LtD d y x → SI d L R a mid lo hi i k) ∧ (¬ LtD d y x → SI d L R a mid lo hi (k + 1) j) := by
 obtain ⟨h1, h2, h3, p1, p2⟩ := hs
 have bn := g.bn
 have e1 := g.ha
 have e2 := g.hm
 have e3 := g.hb
 have e4 := g.hlt
 obtain ⟨k, hk⟩ : ∃ k, k = (i + j) / 2 := ⟨_, rfl⟩
 have k1 : i ≤ k := by clear p1 p2; omega
 have k2 : k < j := by clear p1 p2; omega
 obtain ⟨v, hv⟩ : ∃ v, pp = k + v := ⟨pp - k, by clear p1 p2; omega⟩
 obtain ⟨s, hs⟩ : ∃ s, k = a + s := ⟨k - a, by clear p1 p2; omega⟩
 obtain ⟨t, ht⟩ : ∃ t, mid = k + 1 + t := ⟨mid - 1 - k, by clear p1 p2; omega⟩
 have s1 : s < L.length := by clear p1 p2; omega
 have t1 : t < R.length := by clear p1 p2; omega
 have v1 : v = m + t := by clear p1 p2; omega
 obtain ⟨x, hx⟩ : ∃ x, L[s]? = some x := ⟨_, List.getElem?_eq_getElem s1⟩
 obtain ⟨y, hy⟩ : ∃ y, R[t]? = some y := ⟨_, List.getElem?_eq_getElem t1⟩
 have hxL : x ∈ L := List.mem_of_getElem? hx
 have hyR : y ∈ R := List.mem_of_getElem? hy
 have hne : y ≠ x := fun e => by
   have hnd := g.hs.nodup
   rw [List.nodup_append] at hnd
   exact hnd.2.2 x hxL y hyR e.symm
 refine ⟨k, v, x, y, by rw [hk]; exact mid_at i j (by clear p1 p2; omega), wadd1 k (by clear p1 p2; omega), ?_, ?_, ?_, hxL, hyR, by clear p1 p2; omega, by clear p1 p2; omega, by clear p1 p2; omega, by clear p1 p2; omega, by clear p1 p2; omega, by clear p1 p2; omega, fun h => ⟨h1, k1, by clear p1 p2; omega, p1, .inr ⟨x, y, ?_, ?_, h⟩⟩, fun h => ⟨by clear p1 p2; omega, k2, h3, .inr ⟨x, y, ?_, ?_, Gm.ltD_tot hne h⟩, p2⟩⟩
 · rw [wsub pp k (by clear p1 p2; omega) (by clear p1 p2; omega)]; congr 1; clear p1 p2; omega
 · rw [g.h, List.getElem?_append_right (by clear p1 p2; omega), List.getElem?_append_left (by clear p1 p2; omega), ← hx]; congr 1; clear p1 p2; omega
 · rw [g.h, List.getElem?_append_right (by clear p1 p2; omega), List.getElem?_append_right (by clear p1 p2; omega), List.getElem?_append_left (by clear p1 p2; omega), ← hy]; congr 1; clear p1 p2; omega
 · rw [← hx]; congr 1; clear p1 p2; omega
 · rw [← hy]; congr 1; clear p1 p2; omega
 · rw [← hx]; congr 1; clear p1 p2; omega
 · rw [← hy]; congr 1; clear p1 p2; omega
section
variable {P : Program} [Is P]
structure SP (P : Program) (c : FuncId) (dl l l' : List Int) (n a m b mid i en x y u t : Nat) (z0 z1 : List Int) : Prop where
 rot : u < x → 0 < t → LCon P 192 [.ar 0 0 n, .int .i64 i, .int .i64 m, .int .i64 en, .fn c [] [.fptr [.sl 1 (dl.map encI)] 0]] [.arr true 1 (l.map encI)] (.tup []) [.arr true 1 (z0.map encI)]
 rec1 : 0 < u → 0 < t → LCon P 184 [.ar 0 0 n, .int .i64 a, .int .i64 i, .int .i64 mid, .fn c [] [.fptr [.sl 1 (dl.map encI)] 0]] [.arr true 1 (z0.map encI)] (.tup []) [.arr true 1 (z1.map encI)]
 rec2 : u < x → t < y → LCon P 184 [.ar 0 0 n, .int .i64 mid, .int .i64 en, .int .i64 b, .fn c [] [.fptr [.sl 1 (dl.map encI)] 0]] [.arr true 1 (z1.map encI)] (.tup []) [.arr true 1 (l'.map encI)]
 no0 : ¬ (u < x ∧ 0 < t) → l = z0
 no1 : ¬ (0 < u ∧ 0 < t) → z0 = z1
 no2 : ¬ (u < x ∧ t < y) → z1 = l'
 c1 : decide ((i : Int) < (m : Int)) = decide (u < x)
 c2 : decide ((m : Int) < (en : Int)) = decide (0 < t)
 c3 : decide ((a : Int) < (i : Int)) = decide (0 < u)
 c4 : decide ((i : Int) < (mid : Int)) = decide (0 < t)
 c5 : decide ((mid : Int) < (en : Int)) = decide (u < x)
 c6 : decide ((en : Int) < (b : Int)) = decide (t < y)
theorem dec_of {p q : Prop} [Decidable p] [Decidable q] (h : p ↔ q) : decide p = decide q := by
 by_cases hq : q
 · rw [decide_eq_true hq, decide_eq_true (h.2 hq)]
 · rw [decide_eq_false hq, decide_eq_false (fun hp => hq (h.1 hp))]
theorem sym_parts {d : Int → Int} {c : FuncId} {dl l l' : List Int} {n a m b : Nat} {A L R B : List Int} (g : MG P d c dl l l' n a m b A L R B)
   (IH : ∀ {l l' : List Int} {n a m b : Nat} {A L' R' B : List Int}, L'.length + R'.length < L.length + R.length → MG P d c dl l l' n a m b A L' R' B → LCon P 184 [.ar 0 0 n, .int .i64 a, .int .i64 m, .int .i64 b, .fn c [] [.fptr [.sl 1 (dl.map encI)] 0]] [.arr true 1 (l.map encI)] (.tup []) [.arr true 1 (l'.map encI)])
   {mid i en u t : Nat} (hi : i = a + u) (hm : mid = i + t) (he : en = m + t) (hu : u ≤ L.length) (ht : t ≤ R.length) (h1 : 0 < u + t) (h2 : u + t < L.length + R.length)
   (mg : srtD d (L.take u ++ R.take t) ++ srtD d (L.drop u ++ R.drop t) = srtD d (L ++ R)) : ∃ z0 z1, SP P c dl l l' n a m b mid i en L.length R.length u t z0 z1 := by
 have bn := g.bn
 have e1 := g.ha
 have e2 := g.hm
 have e3 := g.hb
 have e4 := g.hlt
 have lu : (L.take u).length = u := by rw [List.length_take]; omega
 have lt : (R.take t).length = t := by rw [List.length_take]; omega
 have ld : (L.drop u).length + u = L.length := by rw [List.length_drop]; omega
 have le : (R.drop t).length + t = R.length := by rw [List.length_drop]; omega
 have tL : L.take u ++ L.drop u = L := List.take_append_drop u L
 have tR : R.take t ++ R.drop t = R := List.take_append_drop t R
 obtain ⟨z0, hz0⟩ : ∃ z, z = A ++ (L.take u ++ (R.take t ++ (L.drop u ++ (R.drop t ++ B)))) := ⟨_, rfl⟩
 obtain ⟨z1, hz1⟩ : ∃ z, z = A ++ (srtD d (L.take u ++ R.take t) ++ (L.drop u ++ (R.drop t ++ B))) := ⟨_, rfl⟩
 have hl2 : l = (A ++ L.take u) ++ (L.drop u ++ (R.take t ++ (R.drop t ++ B))) := by
   rw [g.h]
   conv => lhs; rw [← tL, ← tR]
   simp only [List.append_assoc]
 have hl3 : l' = (A ++ srtD d (L.take u ++ R.take t)) ++ (srtD d (L.drop u ++ R.drop t) ++ B) := by rw [g.h', ← mg]; simp only [List.append_assoc]
 have n0 : n = z0.length := by rw [hz0, g.hn, hl2]; simp only [List.length_append]; omega
 have n1 : n = z1.length := by rw [hz1, n0, hz0]; simp only [List.length_append, Gm.srtD_len]; omega
 have sub1 : (L.take u ++ R.take t).Sublist (L ++ R) := List.Sublist.append (List.take_sublist u L) (List.take_sublist t R)
 have sub2 : (L.drop u ++ R.drop t).Sublist (L ++ R) := List.Sublist.append (List.drop_sublist u L) (List.drop_sublist t R)
 have nil1 : ¬ u < L.length → L.drop u = [] := fun h => List.drop_eq_nil_of_le (by omega)
 have nil2 : ¬ 0 < t → R.take t = [] := fun h => by rw [show t = 0 by omega]; rfl
 have nil3 : ¬ 0 < u → L.take u = [] := fun h => by rw [show u = 0 by omega]; rfl
 have nil4 : ¬ t < R.length → R.drop t = [] := fun h => List.drop_eq_nil_of_le (by omega)
 have si1 : srtD d (L.take u) = L.take u := Gm.srtD_id (g.hL.sublist (List.take_sublist _ _))
 have si2 : srtD d (R.take t) = R.take t := Gm.srtD_id (g.hR.sublist (List.take_sublist _ _))
 have si3 : srtD d (L.drop u) = L.drop u := Gm.srtD_id (g.hL.sublist (List.drop_sublist _ _))
 have si4 : srtD d (R.drop t) = R.drop t := Gm.srtD_id (g.hR.sublist (List.drop_sublist _ _))
 refine ⟨z0, z1, fun r1 r2 => ?_, fun r1 r2 => ?_, fun r1 r2 => ?_, fun h => ?_, fun h => ?_, fun h => ?_, dec_of ?_, dec_of ?_, dec_of ?_, dec_of ?_, dec_of ?_, dec_of ?_⟩
 · exact n_rotate c dl hl2 (by rw [hz0]; simp only [List.append_assoc]) (by rw [List.length_append]; omega) (by omega) (by omega) (fun e => by rw [e] at ld; simp only [List.length_nil] at ld; omega) (fun e => by rw [e] at lt; simp only [List.length_nil] at lt; omega) g.hn e4
 · exact IH (L' := L.take u) (R' := R.take t) (by omega) ⟨hz0, hz1, e1, by omega, by omega, by omega, by omega, g.hL.sublist (List.take_sublist _ _), g.hR.sublist (List.take_sublist _ _), g.hs.sub sub1, fun x hx y hy => g.hc x (sub1.subset hx) y (sub1.subset hy), n0, e4⟩
 · exact IH (A := A ++ srtD d (L.take u ++ R.take t)) (L' := L.drop u) (R' := R.drop t) (B := B) (by omega) ⟨by rw [hz1]; simp only [List.append_assoc], hl3, by rw [List.length_append, Gm.srtD_len, List.length_append]; omega, by omega, by omega, by omega, by omega, g.hL.sublist (List.drop_sublist _ _), g.hR.sublist (List.drop_sublist _ _), g.hs.sub sub2, fun x hx y hy => g.hc x (sub2.subset hx) y (sub2.subset hy), n1, e4⟩
 · rw [hl2, hz0]
   by_cases h5 : u < L.length
   · rw [nil2 fun h6 => h ⟨h5, h6⟩]
     simp only [List.append_assoc, List.nil_append]
   · rw [nil1 h5]
     simp only [List.append_assoc, List.nil_append]
 · rw [hz0, hz1]
   by_cases h5 : 0 < u
   · rw [nil2 fun h6 => h ⟨h5, h6⟩, List.append_nil, si1, List.nil_append]
   · rw [nil3 h5, List.nil_append, List.nil_append, si2]
 · rw [hz1, hl3]
   by_cases h5 : u < L.length
   · rw [nil4 fun h6 => h ⟨h5, h6⟩, List.append_nil, si3]
     simp only [List.append_assoc, List.nil_append]
   · rw [nil1 h5]
     simp only [List.nil_append]
     rw [si4]
     simp only [List.append_assoc]
 all_goals (rw [Int.ofNat_lt]; omega)
theorem sym_done {d : Int → Int} {c : FuncId} {dl l l' : List Int} {n a m b : Nat} {A L R B : List Int} (g : MG P d c dl l l' n a m b A L R B)
   (IH : ∀ {l l' : List Int} {n a m b : Nat} {A L' R' B : List Int}, L'.length + R'.length < L.length + R.length → MG P d c dl l l' n a m b A L' R' B → LCon P 184 [.ar 0 0 n, .int .i64 a, .int .i64 m, .int .i64 b, .fn c [] [.fptr [.sl 1 (dl.map encI)] 0]] [.arr true 1 (l.map encI)] (.tup []) [.arr true 1 (l'.map encI)])
   {mid nn lo hi i : Nat} (hmid : mid = (a + b) / 2) (hnn : nn = mid + m) (l2 : 2 ≤ L.length) (r2 : 2 ≤ R.length) (f1 : a ≤ lo) (f3 : hi ≤ m) (f4 : hi ≤ mid) (f5 : mid ≤ lo + R.length) (f6 : OrH (lo = a) (mid = lo + R.length)) (f7 : OrH (hi = m) (hi = mid)) (hs : SI d L R a mid lo hi i i) :
   ∃ (en u t : Nat) (z0 z1 : List Int), IntKind.i64.wrap ((nn : Int) - (i : Int)) = (en : Int) ∧ SP P c dl l l' n a m b mid i en L.length R.length u t z0 z1 := by
 obtain ⟨h1, h2, h3, p1, p2⟩ := hs
 have bn := g.bn
 have e2 := g.hm
 have e3 := g.hb
 have e4 := g.hlt
 obtain ⟨u, hu⟩ : ∃ u, i = a + u := ⟨i - a, by clear p1 p2; omega⟩
 obtain ⟨t, ht⟩ : ∃ t, mid = i + t := ⟨mid - i, by clear p1 p2; omega⟩
 have mg := Gm.merged g.hL g.hR (s := u) (t := t) g.hs
   (p1.elim (fun h => f6.el (fun h5 => .inl (by clear p2; omega)) fun h5 => .inr (.inl (by clear p2; omega))) fun ⟨x, y, h3, h4, h5⟩ => .inr (.inr ⟨x, y, by rw [← h3]; congr 1; clear p2; omega, by rw [← h4]; congr 1; clear p2; omega, h5⟩))
   (p2.elim (fun h => f7.el (fun h5 => .inl (by clear p1; omega)) fun h5 => .inr (.inl (by clear p1; omega))) fun ⟨x, y, h3, h4, h5⟩ => .inr (.inr ⟨x, y, by rw [← h3]; congr 1; clear p1; omega, by rw [← h4]; congr 1; clear p1; omega, h5⟩))
 clear p1 p2
 obtain ⟨z0, z1, h⟩ := sym_parts g IH (mid := mid) (i := i) (en := m + t) hu ht rfl (by omega) (by omega) (by omega) (by omega) mg
 exact ⟨m + t, u, t, z0, z1, by rw [wsub nn i (by omega) (by omega)]; congr 1; omega, h⟩
end
end Go.Proofs.YtdldgbkdcpdbeaaGreat
end

section
namespace Go.Proofs.YtdldgbkdcpdbeaaGreat
open Go.Pm
open Go.Gm (LtD ltD StD srtD)
set_option maxHeartbeats 4000000
section
variable {P : Program} [Is P]
theorem n_symG {d : Int → Int} (c : FuncId) (dl : List Int) {l l' : List Int} {n a m b : Nat} {A L R B : List Int} (g : MG P d c dl l l' n a m b A L R B) (c1 : L.length ≠ 1) (c2 : R.length ≠ 1)
   (IH : ∀ {l l' : List Int} {n a m b : Nat} {A L' R' B : List Int}, L'.length + R'.length < L.length + R.length → MG P d c dl l l' n a m b A L' R' B → LCon P 184 [.ar 0 0 n, .int .i64 a, .int .i64 m, .int .i64 b, .fn c [] [.fptr [.sl 1 (dl.map encI)] 0]] [.arr true 1 (l.map encI)] (.tup []) [.arr true 1 (l'.map encI)]) :
   LCon P 184 [.ar 0 0 n, .int .i64 a, .int .i64 m, .int .i64 b, .fn c [] [.fptr [.sl 1 (dl.map encI)] 0]] [.arr true 1 (l.map encI)] (.tup []) [.arr true 1 (l'.map encI)] := by
 have w1 : IntKind.i64.wrap ((m : Int) - (a : Int)) = (L.length : Int) := by have := g.hm; have := g.hb; have := g.bn; have := g.hlt; rw [wsub m a (by omega) (by omega)]; omega
 have w2 : IntKind.i64.wrap ((b : Int) - (m : Int)) = (R.length : Int) := by have := g.hm; have := g.hb; have := g.bn; have := g.hlt; rw [wsub b m (by omega) (by omega)]; omega
 have l2 : 2 ≤ L.length := by have := g.l1; omega
 have r2 : 2 ≤ R.length := by have := g.r1; omega
 have d1 : ((L.length : Int) == 1) = false := by rw [beq_eq_false_iff_ne]; omega
 have d2 : ((R.length : Int) == 1) = false := by rw [beq_eq_false_iff_ne]; omega
 have hln := g.hn.symm
 obtain ⟨mid, hmid⟩ : ∃ mid, mid = (a + b) / 2 := ⟨_, rfl⟩
 obtain ⟨nn, hnn⟩ : ∃ nn, nn = mid + m := ⟨_, rfl⟩
 have wm : IntKind.i64.wrap ((IntKind.u64.wrap (IntKind.i64.wrap ((a : Int) + (b : Int)))).fdiv (2 ^ min 1 IntKind.u64.bits)) = (mid : Int) := by have := g.hm; have := g.hb; have := g.bn; have := g.hlt; rw [hmid]; exact mid_at a b (by omega)
 have wnn : IntKind.i64.wrap ((mid : Int) + (m : Int)) = (nn : Int) := by have := g.hm; have := g.hb; have := g.bn; have := g.hlt; rw [hnn]; exact wadd mid m (by omega)
 obtain ⟨lo, hi, pp, hpp, f1, f2, f3, f4, f5, f6, f7, f8⟩ := sym_start g.hm g.hb hmid hnn l2 r2
 have wp : IntKind.i64.wrap ((nn : Int) - 1) = (pp : Int) := by have := g.hm; have := g.hb; have := g.bn; have := g.hlt; rw [wsub1 nn (by omega) (by omega)]; congr 1; omega
 have wl : nn = b + lo → IntKind.i64.wrap ((nn : Int) - (b : Int)) = (lo : Int) := fun h => by have := g.hm; have := g.hb; have := g.bn; have := g.hlt; rw [wsub nn b (by omega) (by omega)]; congr 1; omega
 refine LCon.of (n := 220) (rs := []) (Is.fn Tryz.func184) rfl (Is.call Tryz.call184) Tryz.results184 Tryz.ntmps184 ?_
 simp only [method_specs_simp, seval, w1, w2]
 simp only [method_specs_simp, seval, d1, w2, d2, wm, wnn]
 refine gB_split (fun h1 => ?k1) (fun h1 => ?k2)
 case' k1 =>
   simp only [decide_eq_true_eq, gt_iff_lt, Int.ofNat_lt] at h1
   obtain ⟨q1, q2⟩ : nn = b + lo ∧ hi = mid := f8.el (fun q => q.2) (fun q => absurd h1 q.1)
   have q1 := wl q1
   rw [q1, wp]
   have q3 : (mid : Int) = (hi : Int) := by rw [q2]
 case' k2 =>
   simp only [decide_eq_false_iff_not, Bool.not_true, gt_iff_lt, Int.ofNat_lt] at h1
   obtain ⟨q1, q2⟩ : lo = a ∧ hi = m := f8.el (fun q => absurd q.1 h1) (fun q => q.2)
   have q3 : (a : Int) = (lo : Int) ∧ (m : Int) = (hi : Int) := ⟨by rw [q1], by rw [q2]⟩
   rw [wp]
 all_goals
   refine SW.while (A := Nat × Nat) (fun p => ⟨pad 220 [.ar 0 0 n, .int .i64 a, .int .i64 m, .int .i64 b, .fn c [] [.fptr [.sl 1 (dl.map encI)] 0], .junk, .junk, .junk, .junk, .junk, .junk, .junk, .junk, .junk, .junk, .junk, .junk, .junk, .int .i64 mid, .int .i64 nn, .int .i64 p.1, .int .i64 p.2, .int .i64 pp], [.arr true 1 (l.map encI)], [.ar 0 0 n, .eptr 0 1 0]⟩)
     (fun p => p.2 - p.1) (fun p => SI d L R a mid lo hi p.1 p.2) (lo, hi) [0] ⟨Nat.le_refl _, f2, Nat.le_refl _, .inl rfl, .inl rfl⟩ ?_ ?_
   · simp only [mvcgen_simp, method_specs_simp, seval]
     first | exact ⟨trivial, hln.symm⟩ | exact ⟨trivial, trivial, hln.symm⟩ | exact q3 | exact ⟨q3, hln.symm⟩ | exact ⟨q3.1, q3.2, hln.symm⟩ | simp only [q1, q2, hln, and_self]
   · rintro ⟨i, j⟩ hs
     simp only at hs
     refine CW.sound ?_
     simp only [method_specs_simp, seval, hln]
     refine gB_split (fun h2 => ?_) (fun h2 => ?_)
     · simp only [decide_eq_true_eq, Int.ofNat_lt] at h2
       obtain ⟨k, v, x, y, wk, wk1, wv, hlx, hly, hxL, hyR, b1, b2, b3, b4, m1, m2, s1, s2⟩ := sym_probe g hmid hnn hpp f1 f3 f4 f5 hs h2
       have hle := g.cmp (x := x) (y := y) hxL hyR
       simp only [wk, wv]
       refine ⟨by kernel_rfl, b3, b4, ?_⟩
       simp only [method_specs_simp, seval, hlx, hly, encI, wk, wv]
       refine ⟨b1, b2, ?_⟩
       refine clY.conC (g.hc y (by simp [hyR]) x (by simp [hxL])) rfl (by simp only [method_specs_simp]) ?_
       simp only [method_specs_simp, seval, hle, wk1]
       cases h3 : ltD d y x
       · simp only [method_specs_simp, seval, h3, wk1]
         refine Again.mk (k + 1, j) [0] (s2 (by unfold LtD; rw [h3]; decide)) m2 ?_
         simp only [mvcgen_simp, method_specs_simp, seval]
       · simp only [method_specs_simp, seval, h3, wk1]
         refine Again.mk (i, k) [0] (s1 h3) m1 ?_
         simp only [mvcgen_simp, method_specs_simp, seval]
     · have hij2 : i = j := by have := hs.h2; simp only [decide_eq_false_iff_not, Bool.not_true, Int.ofNat_lt] at h2; omega
       subst hij2
       obtain ⟨en, u, t, z0, z1, wen, sp⟩ := sym_done g IH hmid hnn l2 r2 f1 f3 f4 f5 f6 f7 hs
       have dt : ∀ {p : Prop} [Decidable p], p → decide p = true := fun h => decide_eq_true h
       have df : ∀ {p : Prop} [Decidable p], ¬ p → decide p = false := fun h => decide_eq_false h
       simp only [method_specs_simp, seval, wen, sp.c1, sp.c2, sp.c3, sp.c4, sp.c5, sp.c6]
       by_cases k1 : u < L.length
       · by_cases k2 : 0 < t
         · simp only [method_specs_simp, seval, wen, sp.c1, sp.c2, sp.c3, sp.c4, sp.c5, sp.c6, dt k1, dt k2]
           refine clY.live [0] [] (sp.rot k1 k2) ?_ (by simp) ?_
           · simp only [mvcgen_simp, method_specs_simp, seval, wen, sp.c1, sp.c2, sp.c3, sp.c4, sp.c5, sp.c6]
           simp only [method_specs_simp, seval, wen, sp.c1, sp.c2, sp.c3, sp.c4, sp.c5, sp.c6, dt k1, dt k2]
           by_cases k3 : 0 < u
           · simp only [method_specs_simp, seval, wen, sp.c1, sp.c2, sp.c3, sp.c4, sp.c5, sp.c6, dt k3]
             refine clY.live [0] [] (sp.rec1 k3 k2) ?_ (by simp) ?_
             · simp only [mvcgen_simp, method_specs_simp, seval, wen, sp.c1, sp.c2, sp.c3, sp.c4, sp.c5, sp.c6]
             simp only [method_specs_simp, seval, wen, sp.c1, sp.c2, sp.c3, sp.c4, sp.c5, sp.c6, dt k1]
             by_cases k4 : t < R.length
             · simp only [method_specs_simp, seval, wen, sp.c1, sp.c2, sp.c3, sp.c4, sp.c5, sp.c6, dt k4]
               refine clY.live [0] [] (sp.rec2 k1 k4) ?_ (by simp) ?_
               · simp only [mvcgen_simp, method_specs_simp, seval, wen, sp.c1, sp.c2, sp.c3, sp.c4, sp.c5, sp.c6]
               simp only [method_specs_simp, seval, wen, sp.c1, sp.c2, sp.c3, sp.c4, sp.c5, sp.c6]
               refine LResY.mk [0] ?_
               simp only [mvcgen_simp, method_specs_simp, seval, wen, sp.c1, sp.c2, sp.c3, sp.c4, sp.c5, sp.c6, hln]
             · simp only [method_specs_simp, seval, wen, sp.c1, sp.c2, sp.c3, sp.c4, sp.c5, sp.c6, df k4]
               refine LResY.mk [0] ?_
               simp only [mvcgen_simp, method_specs_simp, seval, wen, sp.c1, sp.c2, sp.c3, sp.c4, sp.c5, sp.c6, hln, sp.no2 fun h => k4 h.2]
           · have e01 := sp.no1 fun h => k3 h.1
             simp only [method_specs_simp, seval, wen, sp.c1, sp.c2, sp.c3, sp.c4, sp.c5, sp.c6, df k3, e01]
             by_cases k4 : t < R.length
             · simp only [method_specs_simp, seval, wen, sp.c1, sp.c2, sp.c3, sp.c4, sp.c5, sp.c6, dt k4]
               refine clY.live [0] [] (sp.rec2 k1 k4) ?_ (by simp) ?_
               · simp only [mvcgen_simp, method_specs_simp, seval, wen, sp.c1, sp.c2, sp.c3, sp.c4, sp.c5, sp.c6]
               simp only [method_specs_simp, seval, wen, sp.c1, sp.c2, sp.c3, sp.c4, sp.c5, sp.c6]
               refine LResY.mk [0] ?_
               simp only [mvcgen_simp, method_specs_simp, seval, wen, sp.c1, sp.c2, sp.c3, sp.c4, sp.c5, sp.c6, hln]
             · simp only [method_specs_simp, seval, wen, sp.c1, sp.c2, sp.c3, sp.c4, sp.c5, sp.c6, df k4]
               refine LResY.mk [0] ?_
               simp only [mvcgen_simp, method_specs_simp, seval, wen, sp.c1, sp.c2, sp.c3, sp.c4, sp.c5, sp.c6, hln, sp.no2 fun h => k4 h.2]
         · have e01 := (sp.no0 fun h => k2 h.2).trans (sp.no1 fun h => k2 h.2)
           simp only [method_specs_simp, seval, wen, sp.c1, sp.c2, sp.c3, sp.c4, sp.c5, sp.c6, dt k1, df k2, e01]
           by_cases k3 : 0 < u
           · simp only [method_specs_simp, seval, wen, sp.c1, sp.c2, sp.c3, sp.c4, sp.c5, sp.c6, dt k3]
             by_cases k4 : t < R.length
             · simp only [method_specs_simp, seval, wen, sp.c1, sp.c2, sp.c3, sp.c4, sp.c5, sp.c6, dt k4]
               refine clY.live [0] [] (sp.rec2 k1 k4) ?_ (by simp) ?_
               · simp only [mvcgen_simp, method_specs_simp, seval, wen, sp.c1, sp.c2, sp.c3, sp.c4, sp.c5, sp.c6]
               simp only [method_specs_simp, seval, wen, sp.c1, sp.c2, sp.c3, sp.c4, sp.c5, sp.c6]
               refine LResY.mk [0] ?_
               simp only [mvcgen_simp, method_specs_simp, seval, wen, sp.c1, sp.c2, sp.c3, sp.c4, sp.c5, sp.c6, hln]
             · simp only [method_specs_simp, seval, wen, sp.c1, sp.c2, sp.c3, sp.c4, sp.c5, sp.c6, df k4]
               refine LResY.mk [0] ?_
               simp only [mvcgen_simp, method_specs_simp, seval, wen, sp.c1, sp.c2, sp.c3, sp.c4, sp.c5, sp.c6, hln, sp.no2 fun h => k4 h.2]
           · simp only [method_specs_simp, seval, wen, sp.c1, sp.c2, sp.c3, sp.c4, sp.c5, sp.c6, df k3]
             by_cases k4 : t < R.length
             · simp only [method_specs_simp, seval, wen, sp.c1, sp.c2, sp.c3, sp.c4, sp.c5, sp.c6, dt k4]
               refine clY.live [0] [] (sp.rec2 k1 k4) ?_ (by simp) ?_
               · simp only [mvcgen_simp, method_specs_simp, seval, wen, sp.c1, sp.c2, sp.c3, sp.c4, sp.c5, sp.c6]
               simp only [method_specs_simp, seval, wen, sp.c1, sp.c2, sp.c3, sp.c4, sp.c5, sp.c6]
               refine LResY.mk [0] ?_
               simp only [mvcgen_simp, method_specs_simp, seval, wen, sp.c1, sp.c2, sp.c3, sp.c4, sp.c5, sp.c6, hln]
             · simp only [method_specs_simp, seval, wen, sp.c1, sp.c2, sp.c3, sp.c4, sp.c5, sp.c6, df k4]
               refine LResY.mk [0] ?_
               simp only [mvcgen_simp, method_specs_simp, seval, wen, sp.c1, sp.c2, sp.c3, sp.c4, sp.c5, sp.c6, hln, sp.no2 fun h => k4 h.2]
       · have e0 := sp.no0 fun h => k1 h.1
         have e2 := sp.no2 fun h => k1 h.1
         simp only [method_specs_simp, seval, wen, sp.c1, sp.c2, sp.c3, sp.c4, sp.c5, sp.c6, df k1, e0]
         by_cases k2 : 0 < t
         · simp only [method_specs_simp, seval, wen, sp.c1, sp.c2, sp.c3, sp.c4, sp.c5, sp.c6, dt k2]
           by_cases k3 : 0 < u
           · simp only [method_specs_simp, seval, wen, sp.c1, sp.c2, sp.c3, sp.c4, sp.c5, sp.c6, dt k3]
             refine clY.live [0] [] (sp.rec1 k3 k2) ?_ (by simp) ?_
             · simp only [mvcgen_simp, method_specs_simp, seval, wen, sp.c1, sp.c2, sp.c3, sp.c4, sp.c5, sp.c6]
             simp only [method_specs_simp, seval, wen, sp.c1, sp.c2, sp.c3, sp.c4, sp.c5, sp.c6, df k1]
             refine LResY.mk [0] ?_
             simp only [mvcgen_simp, method_specs_simp, seval, wen, sp.c1, sp.c2, sp.c3, sp.c4, sp.c5, sp.c6, hln, e2]
           · simp only [method_specs_simp, seval, wen, sp.c1, sp.c2, sp.c3, sp.c4, sp.c5, sp.c6, df k3]
             refine LResY.mk [0] ?_
             simp only [mvcgen_simp, method_specs_simp, seval, wen, sp.c1, sp.c2, sp.c3, sp.c4, sp.c5, sp.c6, hln, sp.no1 fun h => k3 h.1, e2]
         · simp only [method_specs_simp, seval, wen, sp.c1, sp.c2, sp.c3, sp.c4, sp.c5, sp.c6, df k2]
           by_cases k3 : 0 < u
           · simp only [method_specs_simp, seval, wen, sp.c1, sp.c2, sp.c3, sp.c4, sp.c5, sp.c6, dt k3]
             refine LResY.mk [0] ?_
             simp only [mvcgen_simp, method_specs_simp, seval, wen, sp.c1, sp.c2, sp.c3, sp.c4, sp.c5, sp.c6, hln, sp.no1 fun h => k2 h.2, e2]
           · simp only [method_specs_simp, seval, wen, sp.c1, sp.c2, sp.c3, sp.c4, sp.c5, sp.c6, df k3]
             refine LResY.mk [0] ?_
             simp only [mvcgen_simp, method_specs_simp, seval, wen, sp.c1, sp.c2, sp.c3, sp.c4, sp.c5, sp.c6, hln, sp.no1 fun h => k2 h.2, e2]
theorem n_symMerge {d : Int → Int} (c : FuncId) (dl : List Int) : ∀ (s : Nat) {l l' : List Int} {n a m b : Nat} {A L R B : List Int}, L.length + R.length ≤ s → MG P d c dl l l' n a m b A L R B →
   LCon P 184 [.ar 0 0 n, .int .i64 a, .int .i64 m, .int .i64 b, .fn c [] [.fptr [.sl 1 (dl.map encI)] 0]] [.arr true 1 (l.map encI)] (.tup []) [.arr true 1 (l'.map encI)]
 | 0, l, l', n, a, m, b, A, L, R, B, hz, g => by have := g.l1; omega
 | s + 1, l, l', n, a, m, b, A, L, R, B, hz, g => by
   by_cases c1 : L.length = 1
   · exact n_sym1 c dl g c1
   · by_cases c2 : R.length = 1
     · exact n_sym2 c dl g c1 c2
     · exact n_symG c dl g c1 c2 fun h g' => n_symMerge c dl s (by omega) g'
end
end Go.Proofs.YtdldgbkdcpdbeaaGreat
end

section
namespace Go.Proofs.YtdldgbkdcpdbeaaGreat
open Go.Pm
open Go.Gm (LtD ltD StD srtD)
set_option maxHeartbeats 4000000
section
variable {P : Program} [Is P]
theorem n_stable {d : Int → Int} (c : FuncId) (dl : List Int) {l : List Int} {n : Nat} (hc : ∀ x ∈ l, ∀ y ∈ l, Con P c [.int .i64 x, .int .i64 y, .fptr [.sl 1 (dl.map encI)] 0] (.int .i64 (cmpI (d x) (d y)))) (hs : StD d l) (hn : l.length = n) (hlt : n < 2 ^ 58) :
   LCon P 153 [.ar 0 0 n, .int .i64 n, .fn c [] [.fptr [.sl 1 (dl.map encI)] 0]] [.arr true 1 (l.map encI)] (.tup []) [.arr true 1 ((srtD d l).map encI)] := by
 refine LCon.of (n := 63) (rs := []) (Is.fn Tryz.func153) rfl (Is.call Tryz.call153) Tryz.results153 Tryz.ntmps153 ?_
 simp only [method_specs_simp, seval]
 refine SW.while (A := Nat × Nat × List Int) (fun p => ⟨pad 63 [.ar 0 0 n, .int .i64 n, .fn c [] [.fptr [.sl 1 (dl.map encI)] 0], .junk, .junk, .junk, .int .i64 20, .int .i64 p.1, .int .i64 p.2.1], [.arr true 1 (p.2.2.map encI)], [.ar 0 0 n, .eptr 0 1 0]⟩)
   (fun p => n + 20 - p.1) (fun p => p.2.1 = p.1 + 20 ∧ ∃ Q, Gm.Stg0 d l 20 n p.1 Q p.2.2) (0, 20, l) [0] ⟨rfl, [], rfl, Nat.zero_le _, hn, rfl, rfl⟩ ?_ ?_
 · simp only [mvcgen_simp, method_specs_simp, seval]
   exact hn.symm
 · rintro ⟨a, b, z⟩ ⟨hb, Q, sg⟩
   simp only at hb sg
   have hzl := sg.len
   refine CW.sound ?_
   simp only [method_specs_simp, seval, hzl]
   refine gB_split (fun h => ?_) (fun h => ?_)
   · simp only [decide_eq_true_eq, Int.ofNat_le] at h
     obtain ⟨X, B, e1, e2, e3, e4, sg2⟩ := sg.round (by decide) (by omega) hs
     refine clY.live [0] [] (n_insert (n := n) (a := a) (b := b) (A := Q) (X := X) (B := B) (l := z) c dl (fun x hx y hy => hc x (e4 x hx) y (e4 y hy)) e1 rfl sg.hP.symm (by omega) e3 hzl.symm (by omega)) ?_ (by simp) ?_
     · simp only [mvcgen_simp, method_specs_simp, seval]
     have wb : IntKind.i64.wrap ((b : Int) + 20) = ((b + 20 : Nat) : Int) := wadd b 20 (by omega)
     simp only [method_specs_simp, seval, wb]
     refine Again.mk (b, b + 20, Q ++ (srtD d X ++ B)) [0] ⟨rfl, _, by rw [hb]; exact sg2⟩ (by simp only; omega) ?_
     simp only [mvcgen_simp, method_specs_simp, seval]
   · simp only [decide_eq_false_iff_not, Bool.not_true, Int.ofNat_le] at h
     obtain ⟨X, e1, e2, e3, e4, e5⟩ := sg.last (by omega) hs
     refine clY.live [0] [] (n_insert (n := n) (a := a) (b := n) (A := Q) (X := X) (B := []) (l := z) c dl (fun x hx y hy => hc x (e4 x hx) y (e4 y hy)) e1 rfl sg.hP.symm (by omega) e3 hzl.symm (by omega)) ?_ (by simp) ?_
     · simp only [mvcgen_simp, method_specs_simp, seval]
     rw [← e5]
     refine SW.while (A := Nat) (fun bs => ⟨pad 63 [.ar 0 0 n, .int .i64 n, .fn c [] [.fptr [.sl 1 (dl.map encI)] 0], .junk, .junk, .junk, .int .i64 bs], [.arr true 1 ((Gm.blk d bs l).map encI)], [.ar 0 0 n, .eptr 0 1 0]⟩)
       (fun bs => n - bs) (fun bs => 20 ≤ bs ∧ bs < 2 ^ 59) 20 [0] ⟨Nat.le_refl _, by decide⟩ ?_ ?_
     · simp only [mvcgen_simp, method_specs_simp, seval]
     · rintro bs ⟨h20, hbs⟩
       refine CW.sound ?_
       simp only [method_specs_simp, seval]
       refine gB_split (fun h1 => ?_) (fun h1 => ?_)
       · simp only [decide_eq_true_eq, Int.ofNat_lt] at h1
         have w2 : IntKind.i64.wrap (2 * (bs : Int)) = ((2 * bs : Nat) : Int) := by rw [wrap_id (by omega) (by omega)]; omega
         obtain ⟨b2, hb2⟩ : ∃ b2, b2 = 2 * bs := ⟨_, rfl⟩
         rw [w2, ← hb2]
         refine SW.while (A := Nat × Nat × List Int) (fun p => ⟨pad 63 [.ar 0 0 n, .int .i64 n, .fn c [] [.fptr [.sl 1 (dl.map encI)] 0], .junk, .junk, .junk, .int .i64 bs, .int .i64 p.1, .int .i64 p.2.1], [.arr true 1 (p.2.2.map encI)], [.ar 0 0 n, .eptr 0 1 0]⟩)
           (fun p => n + b2 - p.1) (fun p => p.2.1 = p.1 + b2 ∧ ∃ Q, Gm.Stg d l bs (2 * bs) n p.1 Q p.2.2) (0, b2, Gm.blk d bs l) [0] ⟨by simp only; omega, [], Gm.Stg.start hn⟩ ?_ ?_
         · simp only [mvcgen_simp, method_specs_simp, seval]
         · rintro ⟨a, b, z⟩ ⟨hb, Q, sg⟩
           simp only at hb sg
           have hzl := sg.len
           have ha := sg.ha
           have wm : IntKind.i64.wrap ((a : Int) + (bs : Int)) = ((a + bs : Nat) : Int) := wadd a bs (by omega)
           obtain ⟨m, hm⟩ : ∃ m, m = a + bs := ⟨_, rfl⟩
           rw [← hm] at wm
           refine CW.sound ?_
           simp only [method_specs_simp, seval, hzl]
           refine gB_split (fun h2 => ?_) (fun h2 => ?_)
           · simp only [decide_eq_true_eq, Int.ofNat_le] at h2
             obtain ⟨L, R, B, z', e1, e2, e3, e4, e5, e6, e7, e8, sg2⟩ := sg.round (by omega) (by omega) hs
             have hmg : MG P d c dl z z' n a m b Q L R B := ⟨e1, e2, sg.hP.symm, by omega, by omega, by omega, by omega, e5, e6, e7, fun x hx y hy => hc x (e8 x hx) y (e8 y hy), hzl.symm, by omega⟩
             simp only [method_specs_simp, seval, wm]
             refine clY.live [0] [] (n_symMerge c dl _ (Nat.le_refl _) hmg) ?_ (by simp) ?_
             · simp only [mvcgen_simp, method_specs_simp, seval]
             have wb : IntKind.i64.wrap ((b : Int) + IntKind.i64.wrap (2 * (bs : Int))) = ((b + b2 : Nat) : Int) := by rw [w2, ← hb2]; exact wadd b b2 (by omega)
             obtain ⟨bb, hbb⟩ : ∃ bb, bb = b + b2 := ⟨_, rfl⟩
             rw [← hbb] at wb
             simp only [method_specs_simp, seval, wb]
             refine Again.mk (b, bb, z') [0] ⟨hbb, _, by rw [hb, hb2]; exact sg2⟩ (by simp only; omega) ?_
             simp only [mvcgen_simp, method_specs_simp, seval]
           · simp only [decide_eq_false_iff_not, Bool.not_true, Int.ofNat_le] at h2
             have wq : IntKind.i64.wrap ((bs : Int) * 2) = (b2 : Int) := by rw [wrap_id (by omega) (by omega)]; omega
             simp only [method_specs_simp, seval, wm]
             refine gB_split (fun h3 => ?_) (fun h3 => ?_)
             · simp only [decide_eq_true_eq, Int.ofNat_lt] at h3
               obtain ⟨L, R, e1, e2, e3, e4, e5, e6, e7, e8⟩ := sg.last (by omega) (by omega) (by omega) hs
               have hmg : MG P d c dl z (Gm.blk d (2 * bs) l) n a m n Q L R [] := ⟨e1, e2, sg.hP.symm, by omega, by omega, by omega, by omega, e5, e6, e7, fun x hx y hy => hc x (e8 x hx) y (e8 y hy), hzl.symm, by omega⟩
               refine clY.live [0] [] (n_symMerge c dl _ (Nat.le_refl _) hmg) ?_ (by simp) ?_
               · simp only [mvcgen_simp, method_specs_simp, seval]
               simp only [method_specs_simp, seval, wq]
               refine Again.mk b2 [0] ⟨by omega, by omega⟩ (by omega) ?_
               rw [← hb2]
               simp only [mvcgen_simp, method_specs_simp, seval]
             · simp only [decide_eq_false_iff_not, Bool.not_true, Int.ofNat_lt] at h3
               have hz2 := sg.rest (by omega)
               simp only [method_specs_simp, seval, wq]
               refine Again.mk b2 [0] ⟨by omega, by omega⟩ (by omega) ?_
               rw [hz2, ← hb2]
               simp only [mvcgen_simp, method_specs_simp, seval]
       · simp only [decide_eq_false_iff_not, Bool.not_true, Int.ofNat_lt] at h1
         have hz2 := Gm.blk_small (d := d) (bs := bs) (l := l) (by omega)
         refine LResY.mk [0] ?_
         simp only [mvcgen_simp, method_specs_simp, seval, hz2, Gm.blk_len]
         exact hn
theorem n_sortStable {d : Int → Int} (c : FuncId) (dl : List Int) {l : List Int} {n : Nat} (hc : ∀ x ∈ l, ∀ y ∈ l, Con P c [.int .i64 x, .int .i64 y, .fptr [.sl 1 (dl.map encI)] 0] (.int .i64 (cmpI (d x) (d y)))) (hs : StD d l) (hn : l.length = n) (hlt : n < 2 ^ 58) :
   LCon P 123 [.ar 0 0 n, .fn c [] [.fptr [.sl 1 (dl.map encI)] 0]] [.arr true 1 (l.map encI)] (.tup []) [.arr true 1 ((srtD d l).map encI)] := by
 refine LCon.of (n := 9) (rs := []) (Is.fn Tryz.func123) rfl (Is.call Tryz.call123) Tryz.results123 Tryz.ntmps123 ?_
 simp only [method_specs_simp, seval]
 refine clY.live [0] [] (n_stable c dl hc hs hn hlt) ?_ (by simp) ?_
 · simp only [mvcgen_simp, method_specs_simp, seval]
 simp only [method_specs_simp, seval]
 refine LResY.mk [0] ?_
 simp only [mvcgen_simp, method_specs_simp, seval, hn]
end
end Go.Proofs.YtdldgbkdcpdbeaaGreat
end

section
namespace Go.Proofs.YtdldgbkdcpdbeaaGreat
open Go.Pm
open Go.Gm (Ev Gr LtD ltD StD srtD)
set_option maxHeartbeats 4000000
def rangeI (k : Nat) : List Int := (List.range k).map fun i : Nat => (i : Int)
theorem rangeI_len (k : Nat) : (rangeI k).length = k := by simp [rangeI]
theorem rangeI_succ (k : Nat) : rangeI (k + 1) = rangeI k ++ [(k : Int)] := by simp [rangeI, List.range_succ]
theorem rangeI_mem {k : Nat} {x : Int} : x ∈ rangeI k ↔ ∃ i : Nat, i < k ∧ x = (i : Int) := by
 simp only [rangeI, List.mem_map, List.mem_range]
 exact ⟨fun ⟨i, h, e⟩ => ⟨i, h, e.symm⟩, fun ⟨i, h, e⟩ => ⟨i, h, e.symm⟩⟩
theorem rangeI_std (d : Int → Int) (k : Nat) : StD d (rangeI k) := by
 unfold StD rangeI
 rw [List.pairwise_map]
 refine List.Pairwise.imp (fun {a b} h _ => ?_) List.pairwise_lt_range
 omega
def dpl (dl : List Int) (x : Int) : Int := dl.getD x.toNat 0
def idAtP (evs : List Ev) (x : Int) : Int := match evs[x.toNat]? with
 | some e => e.id
 | none => 0
def orderE (evs : List Ev) : List Int := (srtD (dpl (Gm.depthsE evs)) (rangeI evs.length)).map (idAtP evs)
theorem orderE_len (evs : List Ev) : (orderE evs).length = evs.length := by simp [orderE, Gm.srtD_len, rangeI_len]
section
variable {P : Program} [Is P]
theorem c_orderC (dl : List Int) (hd : dl.length < 2 ^ 60) (x y : Int) (hx : x ∈ rangeI dl.length) (hy : y ∈ rangeI dl.length) : Con P 124 [.int .i64 x, .int .i64 y, .fptr [.sl 1 (dl.map encI)] 0] (.int .i64 (cmpI (dpl dl x) (dpl dl y))) := by
 obtain ⟨i, hi, rfl⟩ := rangeI_mem.1 hx
 obtain ⟨j, hj, rfl⟩ := rangeI_mem.1 hy
 obtain ⟨u, hu⟩ : ∃ u, dl[i]? = some u := ⟨_, List.getElem?_eq_getElem hi⟩
 obtain ⟨v, hv⟩ : ∃ v, dl[j]? = some v := ⟨_, List.getElem?_eq_getElem hj⟩
 have e1 : dpl dl (i : Int) = u := by unfold dpl; rw [Int.toNat_natCast, List.getD_eq_getElem?_getD, hu]; rfl
 have e2 : dpl dl (j : Int) = v := by unfold dpl; rw [Int.toNat_natCast, List.getD_eq_getElem?_getD, hv]; rfl
 rw [e1, e2]
 refine Con.of (n := 15) (rs := [.tmp 5]) (Is.fn Tryz.func124) rfl (Is.call Tryz.call124) Tryz.results124 Tryz.ntmps124 trivial ?_
 simp only [method_specs_simp, seval]
 simp only [method_specs_simp, seval, hu, hv, encI]
 refine ⟨by kernel_rfl, by omega, by omega, by omega, by omega, ?_⟩
 refine clY.con (c172 u v) (by simp only [method_specs_simp]) ?_
 simp only [method_specs_simp, seval]
theorem n_order (g : Gr) (hx : EvsOK g.events) (hs : Gm.Srt g.events) (hin : ∀ e ∈ g.events, Gm.allIn g.events e = true) : NCon P 76 [.agg (encGr g)] (.ar 0 0 g.events.length) [.arr true 1 ((orderE g.events).map encI)] := by
 have hx1 := hx.1
 have hdl := (Gm.depths_ok g.events).len
 refine LCon.new (LCon.of (n := 48) (rs := [.tmp 2]) (Is.fn Tryz.func76) rfl (Is.call Tryz.call76) Tryz.results76 Tryz.ntmps76 ?_) (pure1 (pure_ints _ _))
 simp only [method_specs_simp, seval, encGr]
 refine clY.con (c_depths g hx hs hin) (by simp only [method_specs_simp, encGr]) ?_
 simp only [method_specs_simp, seval, encGr]
 obtain ⟨dl, hdd⟩ : ∃ dl, dl = Gm.depthsE g.events := ⟨_, rfl⟩
 rw [← hdd]
 refine SW.while (A := Nat) (fun i => ⟨pad 48 [.junk, .ptr 0 0, .nil, .ptr 1 0, .junk, .ar 2 0 i, .junk, .junk, .junk, .junk, .junk, .junk, .junk, .junk, .junk, .junk, .junk, .junk, .int .i64 g.events.length, .int .i64 i], [.box true (encGr g), .box true [.sl 1 (dl.map encI)], .arr true 1 ((rangeI i).map encI)], []⟩) (fun i => g.events.length - i) (fun i => i ≤ g.events.length) 0 [0, 1, 2] (Nat.zero_le _) ?_ ?_
 · simp only [mvcgen_simp, method_specs_simp, seval, encGr, rangeI, List.range_zero, List.map_nil]
 · intro i hi
   have hrl := rangeI_len i
   refine CW.sound ?_
   simp only [method_specs_simp, seval, encGr, hrl]
   refine gB_split (fun h => ?_) (fun h => ?_)
   · simp only [decide_eq_true_eq, Int.ofNat_lt] at h
     have w1 : IntKind.i64.wrap ((i : Int) + 1) = ((i + 1 : Nat) : Int) := wadd1 i (by omega)
     simp only [method_specs_simp, seval, encGr, w1, hrl]
     have e1 : (rangeI i).map encI ++ [[V.int IntKind.i64 (i : Int)]] = (rangeI (i + 1)).map encI := by rw [rangeI_succ, List.map_append]; rfl
     refine ⟨by omega, by omega, ?_⟩
     refine Again.mk (i + 1) [0, 1, 4] h (Nat.sub_lt_sub_left h (Nat.lt_succ_self _)) ?_
     rw [e1]
     simp only [mvcgen_simp, method_specs_simp, seval, encGr]
   · have hi2 : i = g.events.length := by simp only [decide_eq_false_iff_not, Bool.not_true, Int.ofNat_lt] at h; omega
     have hdn : dl.length = i := by rw [hdd, hdl, hi2]
     refine clY.live [2] [1] (n_sortStable (d := dpl dl) 124 dl (n := i) (l := rangeI i) (fun x hx y hy => c_orderC dl (by omega) x y (by rw [hdn]; exact hx) (by rw [hdn]; exact hy)) (rangeI_std _ _) hrl (by omega)) ?_ (by simp) ?_
     · simp only [mvcgen_simp, method_specs_simp, seval, encGr, hrl]
     simp only [method_specs_simp, seval, encGr]
     obtain ⟨ps, hps⟩ : ∃ ps, ps = srtD (dpl dl) (rangeI i) := ⟨_, rfl⟩
     have hpl : ps.length = i := by rw [hps, Gm.srtD_len, hrl]
     have hpm : ∀ x ∈ ps, ∃ k : Nat, k < i ∧ x = (k : Int) := fun x hx => rangeI_mem.1 ((Gm.srtD_perm _ _).subset (by rw [← hps]; exact hx))
     have hor : orderE g.events = ps.map (idAtP g.events) := by unfold orderE; rw [hps, ← hdd, hi2]
     rw [← hps, ← hi2]
     refine SW.while (A := Nat) (fun j => ⟨pad 48 [.junk, .ptr 0 0, .nil, .junk, .junk, .junk, .junk, .ar 2 0 j, .junk, .junk, .junk, .junk, .junk, .junk, .junk, .junk, .junk, .junk, .junk, .junk, .junk, .junk, .junk, .junk, .junk, .junk, .junk, .junk, .junk, .junk, .junk, .ar 1 0 i, .int .i64 i, .int .i64 j], [.box true (encGr g), .arr true 1 (ps.map encI), .arr true 1 (((ps.take j).map (idAtP g.events)).map encI)], []⟩) (fun j => i - j) (fun j => j ≤ i) 0 [0, 2, 3] (Nat.zero_le _) ?_ ?_
     · simp only [mvcgen_simp, method_specs_simp, seval, encGr, List.take_zero, List.map_nil]
     · intro j hj
       have hol : ((ps.take j).map (idAtP g.events)).length = j := by rw [List.length_map, List.length_take]; omega
       refine CW.sound ?_
       simp only [method_specs_simp, seval, encGr, hpl]
       refine gB_split (fun h1 => ?_) (fun h1 => ?_)
       · simp only [decide_eq_true_eq, Int.ofNat_lt] at h1
         obtain ⟨x, hx⟩ : ∃ x, ps[j]? = some x := ⟨_, List.getElem?_eq_getElem (by omega)⟩
         obtain ⟨k, hk, rfl⟩ := hpm x (List.mem_of_getElem? hx)
         obtain ⟨e, he⟩ : ∃ e, g.events[k]? = some e := ⟨_, List.getElem?_eq_getElem (by omega)⟩
         have hid : idAtP g.events (k : Int) = e.id := by unfold idAtP; rw [Int.toNat_natCast, he]
         have w1 : IntKind.i64.wrap ((j : Int) + 1) = ((j + 1 : Nat) : Int) := wadd1 j (by omega)
         have e1 : ((ps.take j).map (idAtP g.events)).map encI ++ [[V.int .i64 e.id]] = ((ps.take (j + 1)).map (idAtP g.events)).map encI := by
           rw [List.take_add_one, hx, Option.toList_some, List.map_append, List.map_append, List.map_singleton, List.map_singleton, hid]; rfl
         simp only [method_specs_simp, seval, encGr, w1, hol, hx, he, encI, encEv, hpl]
         refine ⟨by omega, by omega, by omega, by omega, by omega, by omega, ?_⟩
         refine Again.mk (j + 1) [0, 1, 4] h1 (Nat.sub_lt_sub_left h1 (Nat.lt_succ_self _)) ?_
         rw [e1]
         simp only [mvcgen_simp, method_specs_simp, seval, encGr]
       · have hj2 : j = i := by simp only [decide_eq_false_iff_not, Bool.not_true, Int.ofNat_lt] at h1; omega
         subst hj2
         have e2 : (ps.take j).map (idAtP g.events) = orderE g.events := by rw [hor, List.take_of_length_le (by omega)]
         refine LResY.mk [2] ?_
         simp only [mvcgen_simp, method_specs_simp, seval, encGr, e2]
end
end Go.Proofs.YtdldgbkdcpdbeaaGreat
end

section
namespace Go.Proofs.YtdldgbkdcpdbeaaGreat
open Go.Pm
open Go.Gm (Ev Gr LtD ltD StD srtD)
set_option maxHeartbeats 4000000
theorem sub_erase {l m : List Int} {x : Int} (hx : x ∉ l) (h : l ⊆ m) : l ⊆ m.erase x := fun y hy => by
 have hne : y ≠ x := fun e => hx (e ▸ hy)
 exact (List.mem_erase_of_ne hne).2 (h hy)
theorem nodup_len : ∀ {l m : List Int}, l.Nodup → l ⊆ m → l.length ≤ m.length
 | [], m, _, _ => Nat.zero_le _
 | x :: l, m, hn, h => by
   have h1 := List.nodup_cons.1 hn
   have hx : x ∈ m := h List.mem_cons_self
   have := nodup_len h1.2 (sub_erase h1.1 fun y hy => h (List.mem_cons_of_mem _ hy))
   rw [List.length_erase_of_mem hx] at this
   have := List.length_pos_of_mem hx
   simp only [List.length_cons]; omega
def lvl (dl : List Int) (k : Int) (i : Nat) : List Int := (rangeI i).filter fun x => dpl dl x == k
def upto (dl : List Int) : Nat → List Int
 | 0 => []
 | k + 1 => upto dl k ++ lvl dl (k : Int) dl.length
def outL (dl : List Int) (k i : Nat) : List Int := upto dl k ++ lvl dl (k : Int) i
section
variable {P : Program} [Is P]
end
end Go.Proofs.YtdldgbkdcpdbeaaGreat
end

section
namespace Go.Proofs.YtdldgbkdcpdbeaaGreat
open Go.Pm
open Go.Gm (Ev Gr)
set_option maxHeartbeats 4000000
@[mvcgen_simp] theorem jk_refl : ∀ xs : List V, jk xs xs = True
 | [] => jk_nil
 | x :: xs => by rw [jk_cons, jk_refl xs]; simp
theorem clY.at1 {P : Program} {f : FuncId} {q n sz sz' : Nat} {rest : List V} {m : List Ob} {zs zs' : List (List V)} {r : V} {K KL : V → List Ob → Prop} (h : LCon P f (.ar 0 0 n :: rest) [.arr true sz zs] r [.arr true sz' zs'])
   (hq : m[q]? = some (.arr true sz zs)) (hp : (Ob.arr true sz zs).pure) (hp' : (Ob.arr true sz' zs').pure) (hr : Ref (fun _ => False) r) (hrest : Refs (fun _ => False) rest) (hcv : convs m rest = rest)
   (k : KL r (m.set q (.arr true sz' zs'))) : @clY P (.fn f [] []) (.ar q 0 n :: rest) m ⟨K, KL⟩ := by
 have hlt := (List.getElem?_eq_some_iff.1 hq).1
 have hl : (m.take q).length = q := by rw [List.length_take]; omega
 have hx : (m.drop q) = .arr true sz zs :: m.drop (q + 1) := by rw [List.drop_eq_getElem_cons hlt, (List.getElem?_eq_some_iff.1 hq).2]
 have pr : ∀ {s : Nat} {z : List (List V)} {ok : Nat → Prop}, (Ob.arr true s z).pure → (Ob.arr true s z).refs ok := fun hz => Refss.mono (fun _ h => h.elim) _ hz
 refine clY.seg (A := m.take q) (B := [.arr true sz zs]) (B' := [.arr true sz' zs']) (C := m.drop (q + 1)) h rfl (fun ob ho => ?_) (fun ob ho => ?_) ⟨Nat.zero_lt_one, Refs.mono (fun _ h => h.elim) _ hrest⟩ (Ref.mono (fun _ h => h.elim) _ hr) ?_ ?_ ?_ ?_
 · rw [List.mem_singleton] at ho; subst ho; exact ⟨pr hp, rfl⟩
 · rw [List.mem_singleton] at ho; subst ho; exact pr hp'
 · rw [List.map_singleton, Ob.ren_pure _ hp, List.append_assoc, List.singleton_append, ← hx, List.take_append_drop]
 · simp only [rens, V.ren, hl, Nat.add_zero, rens_pure _ hrest, List.nil_append, List.append_nil]
 · simp only [List.nil_append, List.append_nil, convs, hcv]
   simp only [conv, hq]
 · rw [V.ren_pure _ hr, List.map_singleton, Ob.ren_pure _ hp', List.append_assoc, List.singleton_append]
   have : m.take q ++ .arr true sz' zs' :: m.drop (q + 1) = m.set q (.arr true sz' zs') := by
     apply List.ext_getElem?
     intro j
     rw [List.getElem?_append, List.getElem?_set, hl, List.getElem?_take]
     by_cases h1 : j < q
     · rw [if_pos h1, if_pos h1, if_neg (by omega)]
     · rw [if_neg h1]
       by_cases h2 : q = j
       · subst h2
         rw [if_pos rfl, if_pos hlt, Nat.sub_self]; rfl
       · rw [if_neg h2, show j - q = (j - q - 1) + 1 by omega, List.getElem?_cons_succ, List.getElem?_drop]
         congr 1; omega
   rw [this]; exact k
theorem LResY.tail {m A L : List Ob} {x r : V} (em : m = A ++ L.map (Ob.ren (A.length + ·))) (ex : x = r.ren (A.length + ·)) (hL : ∀ ob ∈ L, ob.refs (· < L.length)) (hr : Ref (· < L.length) r) : @LResY m [] x ⟨[], r, L⟩ := by
 subst em; subst ex
 have hin : ∀ q, q ∈ segK A.length L.length → ∃ (h : q - A.length < L.length), (A ++ L.map (Ob.ren (A.length + ·))).getD q .hole = (L[q - A.length]).ren (A.length + ·) := fun q hq => by
   obtain ⟨h1, h2⟩ := segK_mem.1 hq
   have h3 : q - A.length < L.length := by omega
   refine ⟨h3, ?_⟩
   rw [List.getD_eq_getElem?_getD, List.getElem?_append_right h1, List.getElem?_map, List.getElem?_eq_getElem h3]; rfl
 have hidx : ∀ o, o < L.length → idx (segK A.length L.length) (A.length + o) = o := fun o ho => by rw [segK_idx (by omega)]; omega
 refine LResY.mk (segK A.length L.length) ⟨segK_nodup _ _, fun q hq => ?_, fun q hq => ?_, ?_, ⟨.inr ⟨?_, ?_⟩, rfl⟩, rfl⟩
 · have := segK_mem.1 hq
   simp only [List.length_append, List.length_map]; omega
 · obtain ⟨h3, e⟩ := hin q hq
   simp only
   rw [e]
   refine Ob.refs_ren ?_
   have h2 := hL _ (List.getElem_mem h3)
   revert h2
   generalize L[q - A.length] = ob
   cases ob with
   | hole => exact fun _ => trivial
   | dead => exact fun _ => trivial
   | box lv cs => exact fun h2 => Refs.mono (fun o ho => segK_mem.2 (by omega)) _ h2
   | arr lv sz xs => exact fun h2 => Refss.mono (fun o ho => segK_mem.2 (by omega)) _ h2
   | mp lv ks vs => exact fun h2 => ⟨Refs.mono (fun o ho => segK_mem.2 (by omega)) _ h2.1, Refs.mono (fun o ho => segK_mem.2 (by omega)) _ h2.2⟩
 · simp only
   apply List.ext_getElem?
   intro i
   rw [List.getElem?_map, segK_get]
   by_cases hi : i < L.length
   · rw [if_pos hi, List.getElem?_eq_getElem hi, Option.map_some]
     obtain ⟨h3, e⟩ := hin (A.length + i) (segK_mem.2 (by omega))
     rw [e, Ob.ren_twice]
     simp only [Nat.add_sub_cancel_left]
     rw [Ob.ren_self hidx (hL _ (List.getElem_mem hi))]
   · rw [if_neg hi, List.getElem?_eq_none (by omega)]; rfl
 · exact Ref.ren _ (Ref.mono (fun o ho => segK_mem.2 (by omega)) _ hr)
 · rw [V.twice]
   have := V.congr (ρ := fun o => idx (segK A.length L.length) (A.length + o)) (σ := fun o => o) hidx r hr
   rw [this, V.ren_id]
theorem plc_refs {ok : Nat → Prop} : ∀ (m : List Ob) (o : Nat), (∀ i, o ≤ i → i < o + m.length → ok i) → ∀ x ∈ plc o m, Ref ok x
 | [], o, h, x, hx => by simp [plc] at hx
 | ob :: m, o, h, x, hx => by
   rw [plc] at hx
   rcases List.mem_append.1 hx with hx | hx
   · have := h o (Nat.le_refl _) (by simp only [List.length_cons]; omega)
     cases ob <;> simp only [plc1, List.mem_cons, List.not_mem_nil, or_false] at hx
     · subst hx; exact this
     · rcases hx with rfl | rfl <;> exact this
     · subst hx; exact this
   · exact plc_refs m (o + 1) (fun i h1 h2 => h i (by omega) (by simp only [List.length_cons]; omega)) x hx
theorem wkT_id {ks : List Nat} (hk : ∀ q ∈ ks, idx ks q = q) : ∀ {xs : List V}, (∀ x ∈ xs, Ref (· ∈ ks) x) → wkT ks xs xs
 | [], _ => rfl
 | x :: xs, h => ⟨.inr ⟨h x List.mem_cons_self, by rw [V.congr (σ := fun o => o) hk x (h x List.mem_cons_self), V.ren_id]⟩, wkT_id hk fun y hy => h y (List.mem_cons_of_mem _ hy)⟩
theorem LResY.head {m L D m0 : List Ob} {r : V} (em : m = L ++ D) (hl : L.length = m0.length) (hL : ∀ ob ∈ L, ob.refs (· < L.length)) (hr : Ref (· < L.length) r) : @LResY m (plc 0 m0) r ⟨m0, r, L⟩ := by
 subst em
 have hidx : ∀ o, o < L.length → idx (segK 0 L.length) o = o := fun o ho => by rw [segK_idx (by omega)]; omega
 have hidx2 : ∀ q ∈ segK 0 L.length, idx (segK 0 L.length) q = q := fun q hq => hidx q (by have := segK_mem.1 hq; omega)
 have hin : ∀ q, q ∈ segK 0 L.length → ∃ (h : q < L.length), (L ++ D).getD q .hole = L[q] := fun q hq => by
   have h3 : q < L.length := by have := segK_mem.1 hq; omega
   refine ⟨h3, ?_⟩
   rw [List.getD_eq_getElem?_getD, List.getElem?_append_left h3, List.getElem?_eq_getElem h3]; rfl
 refine LResY.mk (segK 0 L.length) ⟨segK_nodup _ _, fun q hq => ?_, fun q hq => ?_, ?_, ⟨.inr ⟨?_, ?_⟩, rfl⟩, ?_⟩
 · obtain ⟨h3, _⟩ := hin q hq
   simp only [List.length_append]; omega
 · obtain ⟨h3, e⟩ := hin q hq
   simp only
   rw [e]
   have h2 := hL _ (List.getElem_mem h3)
   revert h2
   generalize L[q] = ob
   cases ob with
   | hole => exact fun _ => trivial
   | dead => exact fun _ => trivial
   | box lv cs => exact fun h2 => Refs.mono (fun o ho => segK_mem.2 (by omega)) _ h2
   | arr lv sz xs => exact fun h2 => Refss.mono (fun o ho => segK_mem.2 (by omega)) _ h2
   | mp lv ks vs => exact fun h2 => ⟨Refs.mono (fun o ho => segK_mem.2 (by omega)) _ h2.1, Refs.mono (fun o ho => segK_mem.2 (by omega)) _ h2.2⟩
 · simp only
   apply List.ext_getElem?
   intro i
   rw [List.getElem?_map, segK_get]
   by_cases hi : i < L.length
   · rw [if_pos hi, List.getElem?_eq_getElem hi, Option.map_some]
     obtain ⟨h3, e⟩ := hin (0 + i) (segK_mem.2 (by omega))
     rw [e]
     simp only [Nat.zero_add]
     rw [Ob.ren_self hidx (hL _ (List.getElem_mem hi))]
   · rw [if_neg hi, List.getElem?_eq_none (by omega)]; rfl
 · exact Ref.mono (fun o ho => segK_mem.2 (by omega)) _ hr
 · rw [V.congr (σ := fun o => o) hidx r hr, V.ren_id]
 · exact wkT_id hidx2 (plc_refs m0 0 fun i h1 h2 => segK_mem.2 (by omega))
theorem LResY.tail3 {a b c : Ob} {m L : List Ob} {x r : V} (em : m = L.map (Ob.ren (3 + ·))) (ex : x = r.ren (3 + ·)) (hL : ∀ ob ∈ L, ob.refs (· < L.length)) (hr : Ref (· < L.length) r) : @LResY (a :: b :: c :: m) [] x ⟨[], r, L⟩ :=
 LResY.tail (A := [a, b, c]) (by subst em; rfl) ex hL hr
def rowEv (q : Nat) (e : Ev) : List V := [.int .i64 e.id, .int .i64 e.room, .int .i64 e.author, .int .i64 e.kind, .int .i64 e.key, .int .i64 e.n, .str e.text, .ar q 0 e.prev.length, .int .i64 e.time]
def rowsEv : Nat → List Ev → List (List V)
 | _, [] => []
 | q, e :: l => rowEv q e :: rowsEv (q + 1) l
def obI (e : Ev) : Ob := .arr true 1 (e.prev.map encI)
def obE (l : List Ev) : List Ob := .arr true 9 (rowsEv 1 l) :: l.map obI
theorem rowsEv_len : ∀ (q : Nat) (l : List Ev), (rowsEv q l).length = l.length
 | _, [] => rfl
 | q, e :: l => by simp [rowsEv, rowsEv_len (q + 1) l]
theorem rowsEv_app : ∀ (q : Nat) (l l' : List Ev), rowsEv q (l ++ l') = rowsEv q l ++ rowsEv (q + l.length) l'
 | _, [], l' => rfl
 | q, e :: l, l' => by
   simp only [List.cons_append, rowsEv, rowsEv_app (q + 1) l l', List.length_cons]
   rw [show q + 1 + l.length = q + (l.length + 1) by omega]
theorem rowsEv_get : ∀ (q : Nat) (l : List Ev) (i : Nat), (rowsEv q l)[i]? = (l[i]?).map (rowEv (q + i))
 | _, [], i => by simp [rowsEv]
 | q, e :: l, 0 => by simp [rowsEv]
 | q, e :: l, i + 1 => by
   simp only [rowsEv, List.getElem?_cons_succ, rowsEv_get (q + 1) l i]
   rw [show q + 1 + i = q + (i + 1) by omega]
theorem rowsEv_set : ∀ (q : Nat) (l : List Ev) (i : Nat) (e : Ev), (rowsEv q l).set i (rowEv (q + i) e) = rowsEv q (l.set i e)
 | _, [], i, e => by simp [rowsEv]
 | q, x :: l, 0, e => by simp [rowsEv]
 | q, x :: l, i + 1, e => by
   simp only [rowsEv, List.set_cons_succ]
   rw [← rowsEv_set (q + 1) l i e, show q + 1 + i = q + (i + 1) by omega]
theorem rowsEv_ren (b : Nat) : ∀ (q : Nat) (l : List Ev), renss (b + ·) (rowsEv q l) = rowsEv (b + q) l
 | _, [] => rfl
 | q, e :: l => by
   simp only [rowsEv, renss, rowsEv_ren b (q + 1) l]
   rfl
theorem obI_ren (ρ : Nat → Nat) (e : Ev) : (obI e).ren ρ = obI e := by
 unfold obI
 simp only [Ob.ren, encI_rens]
def obEb (b : Nat) (l : List Ev) : List Ob := .arr true 9 (rowsEv (b + 1) l) :: l.map obI
theorem obE_ren (b : Nat) (l : List Ev) : (obE l).map (Ob.ren (b + ·)) = obEb b l := by
 unfold obE obEb
 simp only [List.map_cons, Ob.ren, rowsEv_ren, List.map_map]
 congr 1
 exact List.map_congr_left fun e _ => obI_ren _ e
theorem obE_b (l : List Ev) : obE l = obEb 0 l := by unfold obE obEb; rw [Nat.zero_add]
theorem obE_len (l : List Ev) : (obE l).length = l.length + 1 := by simp [obE]
theorem obEb_len (b : Nat) (l : List Ev) : (obEb b l).length = l.length + 1 := by simp [obEb]
theorem obI_refs (ok : Nat → Prop) (e : Ev) : (obI e).refs ok := of_eq_true (encI_refs ok e.prev)
theorem rowsEv_refs {ok : Nat → Prop} : ∀ (q : Nat) (l : List Ev), (∀ i, q ≤ i → i < q + l.length → ok i) → Refss ok (rowsEv q l)
 | _, [], _ => trivial
 | q, e :: l, h => ⟨⟨trivial, trivial, trivial, trivial, trivial, trivial, trivial, h q (Nat.le_refl _) (by simp), trivial, trivial⟩, rowsEv_refs (q + 1) l fun i h1 h2 => h i (by omega) (by simp only [List.length_cons]; omega)⟩
theorem obE_refs {n : Nat} (l : List Ev) (h : l.length < n) : ∀ ob ∈ obE l, ob.refs (· < n) := fun ob ho => by
 rcases List.mem_cons.1 ho with rfl | ho
 · exact rowsEv_refs 1 l fun i h1 h2 => by omega
 · obtain ⟨e, _, rfl⟩ := List.mem_map.1 ho
   exact obI_refs _ e
theorem obE_alive (l : List Ev) : ∀ ob ∈ obE l, ob.alive = true := fun ob ho => by
 rcases List.mem_cons.1 ho with rfl | ho
 · rfl
 · obtain ⟨e, _, rfl⟩ := List.mem_map.1 ho
   rfl
def mInts : Int → Nat → List Int
 | _, 0 => []
 | k, n + 1 => k :: mInts (k + 1) n
theorem mInts_len : ∀ (n : Nat) (k : Int), (mInts k n).length = n
 | 0, k => rfl
 | n + 1, k => by simp [mInts, mInts_len n]
theorem mInts_succ : ∀ (n : Nat) (k : Int), mInts k (n + 1) = mInts k n ++ [k + n]
 | 0, k => by simp [mInts]
 | n + 1, k => by
   rw [mInts, mInts_succ n, mInts, List.cons_append]
   congr 3
   omega
def mEv (k : Int) (e : Ev) : Ev := ⟨k, k + 1, k + 2, k + 3, k + 4, k + 5, mText (k + 6), mInts (k + 7) e.prev.length, k + 7 + e.prev.length⟩
def wM : List Ev → Int
 | [] => 0
 | e :: l => 8 + e.prev.length + wM l
def mEvs : Int → List Ev → List Ev
 | _, [] => []
 | k, e :: l => mEv k e :: mEvs (k + 8 + e.prev.length) l
theorem wM_nn : ∀ l : List Ev, 0 ≤ wM l
 | [] => Int.le_refl _
 | e :: l => by have := wM_nn l; unfold wM; omega
theorem wM_app : ∀ l l' : List Ev, wM (l ++ l') = wM l + wM l'
 | [], l' => by simp [wM]
 | e :: l, l' => by simp only [List.cons_append, wM, wM_app l l']; omega
theorem mEvs_len : ∀ (k : Int) (l : List Ev), (mEvs k l).length = l.length
 | _, [] => rfl
 | k, e :: l => by simp [mEvs, mEvs_len _ l]
theorem mEvs_get : ∀ (k : Int) (l : List Ev) (i : Nat), (mEvs k l)[i]? = (l[i]?).map (mEv (k + wM (l.take i)))
 | _, [], i => by simp [mEvs]
 | k, e :: l, 0 => by simp [mEvs, wM]
 | k, e :: l, i + 1 => by
   simp only [mEvs, List.getElem?_cons_succ, mEvs_get _ l i, List.take_succ_cons, wM]
   rw [show k + 8 + (e.prev.length : Int) + wM (l.take i) = k + (8 + (e.prev.length : Int) + wM (l.take i)) by omega]
theorem wM_le : ∀ l : List Ev, wM l ≤ 8 * (l.length + wEs l)
 | [] => by simp [wM, wEs]
 | e :: l => by
   have := wM_le l
   simp only [wM, wEs, wE, List.length_cons]
   omega
def mixE (k : Int) (l : List Ev) (i : Nat) : List Ev := (mEvs k l).take i ++ l.drop i
theorem mixE_len {k : Int} {l : List Ev} {i : Nat} : (mixE k l i).length = l.length := by
 unfold mixE
 simp [mEvs_len]; omega
theorem mixE_zero (k : Int) (l : List Ev) : mixE k l 0 = l := by simp [mixE]
theorem mixE_all (k : Int) (l : List Ev) : mixE k l l.length = mEvs k l := by
 unfold mixE
 rw [List.take_of_length_le (by rw [mEvs_len]; omega), List.drop_eq_nil_of_le (Nat.le_refl _), List.append_nil]
theorem mixE_get {k : Int} {l : List Ev} {i : Nat} {e : Ev} (h : l[i]? = some e) : (mixE k l i)[i]? = some e := by
 have hi := (List.getElem?_eq_some_iff.1 h).1
 unfold mixE
 rw [List.getElem?_append_right (by simp; omega), List.length_take, mEvs_len, List.getElem?_drop, show i + (i - min i l.length) = i by omega]
 exact h
theorem mixE_set {k : Int} {l : List Ev} {i : Nat} {e : Ev} (h : l[i]? = some e) : (mixE k l i).set i (mEv (k + wM (l.take i)) e) = mixE k l (i + 1) := by
 have hi := (List.getElem?_eq_some_iff.1 h).1
 have hm : (mEvs k l)[i]? = some (mEv (k + wM (l.take i)) e) := by rw [mEvs_get, h]; rfl
 unfold mixE
 rw [List.set_append_right _ _ (by simp; omega), List.length_take, mEvs_len, show i - min i l.length = 0 by omega, drop_cons h, List.set_cons_zero, List.take_add_one, hm]
 simp
section
variable {P : Program} [Is P]
theorem n_toEvent (e : Ev) (he : EvOK e) : NCon P 67 [.agg (encEv e)] (.agg (rowEv 0 e)) [obI e] := by
 refine LCon.new (LCon.of (n := 33) (rs := [.cell 2 92]) (Is.fn Tryz.func67) rfl (Is.call Tryz.call67) Tryz.results67 Tryz.ntmps67 ?_) (pure1 (pure_ints _ _))
 simp only [method_specs_simp, seval]
 simp only [method_specs_simp, seval, encEv]
 refine clY.new (n_toInt64S e.prev he.2) (by simp only [method_specs_simp]) ?_
 simp only [method_specs_simp, seval]
 refine LResY.mk [3] ?_
 simp only [mvcgen_simp, method_specs_simp, seval, rowEv, obI]
def rowsL (xs : List Ev) (k : Nat) : List (List V) := rowsEv 1 (xs.take k) ++ List.replicate (xs.length - k) zEv
theorem rowsL_len {xs : List Ev} {k : Nat} (hk : k ≤ xs.length) : (rowsL xs k).length = xs.length := by
 simp [rowsL, rowsEv_len, Nat.min_eq_left hk]; omega
theorem rowsL_zero (xs : List Ev) : rowsL xs 0 = List.replicate xs.length zEv := by simp [rowsL, rowsEv]
theorem rowsL_all (xs : List Ev) : rowsL xs xs.length = rowsEv 1 xs := by simp [rowsL]
theorem rowsL_get {xs : List Ev} {k : Nat} (hk : k < xs.length) : (rowsL xs k).getD k [] = zEv := by
 unfold rowsL
 rw [List.getD_eq_getElem?_getD, List.getElem?_append_right (by simp [rowsEv_len]; omega), rowsEv_len, List.length_take, show k - min k xs.length = 0 by omega, show xs.length - k = (xs.length - (k + 1)) + 1 by omega, List.replicate_succ]
 rfl
theorem rowsL_set {xs : List Ev} {k : Nat} {x : Ev} (hx : xs[k]? = some x) : (rowsL xs k).set k (rowEv (k + 1) x) = rowsL xs (k + 1) := by
 have hk := (List.getElem?_eq_some_iff.1 hx).1
 unfold rowsL
 rw [List.set_append_right _ _ (by simp [rowsEv_len]; omega), rowsEv_len, List.length_take, show k - min k xs.length = 0 by omega, show xs.length - k = (xs.length - (k + 1)) + 1 by omega, List.replicate_succ, List.set_cons_zero, List.take_add_one, hx, Option.toList_some, rowsEv_app, List.length_take, Nat.min_eq_left (by omega), List.append_assoc]
 simp [rowsEv, Nat.add_comm]
theorem n_toEventS (xs : List Ev) (hx : EvsOK xs) : LCon P 39 [.sl 9 (xs.map encEv)] [] (.ar 0 0 xs.length) (obE xs) := by
 have hx1 := hx.1
 refine LCon.ofJ (n := 23) (rs := [.tmp 2]) (Is.fn Tryz.func39) rfl (Is.call Tryz.call39) Tryz.results39 Tryz.ntmps39 ?_
 simp only [method_specs_simp, seval]
 refine ⟨by omega, by omega, by omega, ?_⟩
 refine SW.whileJ (A := Nat) (fun k => ⟨pad 23 [.sl 9 (xs.map encEv), .junk, .nil, .ar 0 0 xs.length, .int .i64 k], .arr true 9 (rowsL xs k) :: (xs.take k).map obI, []⟩) (fun k => xs.length - k) (fun k => k ≤ xs.length) 0 (Nat.zero_le _) ?_ ?_
 · have ez : List.replicate xs.length [V.int .i64 0, .int .i64 0, .int .i64 0, .int .i64 0, .int .i64 0, .int .i64 0, .str ByteArray.empty, .nil, .int .i64 0] = rowsL xs 0 := (rowsL_zero _).symm
   rw [ez]
   simp only [mvcgen_simp, method_specs_simp, seval]
 · intro k hk
   refine CW.sound ?_
   simp only [method_specs_simp, seval]
   refine gB_split (fun h => ?_) (fun h => ?_)
   · simp only [decide_eq_true_eq, Int.ofNat_lt] at h
     have hxk : xs[k]? = some xs[k] := List.getElem?_eq_getElem h
     have hOK := hx.2 _ (List.getElem_mem h)
     generalize xs[k] = x at hxk hOK
     simp only [List.getElem?_map, hxk, method_specs_simp, seval]
     refine ⟨by omega, by omega, by simp [encEv], ?_⟩
     rw [show List.take 9 (encEv x) = encEv x from rfl]
     have hl : ((xs.take k).map obI).length = k := by simp; omega
     refine clY.new (n_toEvent x hOK) (by simp only [method_specs_simp, encEv]) ?_
     simp only [method_specs_simp, seval, rowEv, hl]
     have e1 : (rowsL xs k).set k (V.int IntKind.i64 x.id :: V.int IntKind.i64 x.room :: V.int IntKind.i64 x.author :: V.int IntKind.i64 x.kind :: V.int IntKind.i64 x.key :: V.int IntKind.i64 x.n :: V.str x.text :: V.ar (k + 1) 0 x.prev.length :: V.int IntKind.i64 x.time :: List.drop 9 ((rowsL xs k).getD k [])) = rowsL xs (k + 1) := by
       rw [rowsL_get h]; exact rowsL_set hxk
     refine ⟨by omega, by omega, by rw [rowsL_len hk]; exact h, by rw [List.getElem?_append_right (by omega), hl, Nat.sub_self]; rfl, ?_⟩
     rw [wrap_id (by omega) (by omega)]
     refine AgainJ.mk (k + 1) h (Nat.sub_lt_sub_left h (Nat.lt_succ_self _)) ?_
     rw [e1, List.take_add_one, hxk, Option.toList_some, List.map_append, List.map_cons, List.map_nil]
     simp only [mvcgen_simp, method_specs_simp, seval]
   · simp only [decide_eq_false_iff_not, Bool.not_true, Int.ofNat_lt] at h
     have hi : k = xs.length := by omega
     subst hi
     rw [rowsL_all, List.take_of_length_le (Nat.le_refl _)]
     rfl
theorem n_markInt64S (xs : List Int) (k : Int) (h0 : 0 ≤ k) (h1 : k < 2 ^ 60) (hx : xs.length < 2 ^ 60) : LCon P 31 [.ar 0 0 xs.length, .int .i64 k] [.arr true 1 (xs.map encI)] (.int .i64 (k + xs.length)) [.arr true 1 ((mInts k xs.length).map encI)] := by
 refine LCon.of (n := 19) (rs := [.tmp 4]) (Is.fn Tryz.func31) rfl (Is.call Tryz.call31) Tryz.results31 Tryz.ntmps31 ?_
 simp only [method_specs_simp, seval]
 refine SW.while (A := Nat × List Int) (fun a => ⟨pad 19 [.ar 0 0 xs.length, .int .i64 (k + a.1), .junk, .junk, .junk, .int .i64 a.1], [.arr true 1 (a.2.map encI)], [.ar 0 0 xs.length, .eptr 0 1 0]⟩) (fun a => xs.length - a.1)
     (fun a => a.1 ≤ xs.length ∧ a.2.length = xs.length ∧ a.2.take a.1 = mInts k a.1) (0, xs) [0] ⟨Nat.zero_le _, rfl, rfl⟩ ?_ ?_
 · simp only [mvcgen_simp, method_specs_simp, seval]
   exact Int.add_zero k
 · rintro ⟨i, ys⟩ ⟨hi, hy, hr⟩
   simp only at hi hy hr
   refine CW.sound ?_
   simp only [method_specs_simp, seval, hy]
   refine gB_split (fun h => ?_) (fun h => ?_)
   · simp only [decide_eq_true_eq, Int.ofNat_lt] at h
     have e1 : IntKind.i64.wrap (k + (i : Int) + 1) = k + ((i + 1 : Nat) : Int) := by rw [wrap_id (by omega) (by omega)]; omega
     have e2 : IntKind.i64.wrap ((i : Int) + 1) = ((i + 1 : Nat) : Int) := by rw [wrap_id (by omega) (by omega)]; rfl
     simp only [method_specs_simp, seval, e1, e2]
     refine ⟨by omega, by omega, by omega, ?_⟩
     refine Again.mk (i + 1, ys.set i (k + i)) [0] ⟨h, by simpa using hy, by show List.take (i + 1) _ = _; rw [take_set' (by omega), hr, mInts_succ]⟩ (Nat.sub_lt_sub_left h (Nat.lt_succ_self _)) ?_
     simp only [mvcgen_simp, method_specs_simp, seval]
   · have hi2 : i = xs.length := by simp only [decide_eq_false_iff_not, Bool.not_true, Int.ofNat_lt] at h; omega
     subst hi2
     have e3 : ys = mInts k xs.length := by rw [← hr, List.take_of_length_le (by omega)]
     refine LResY.mk [0] ?_
     simp only [mvcgen_simp, method_specs_simp, seval, e3]
theorem n_markEventS (xs : List Ev) (k : Int) (h0 : 0 ≤ k) (h1 : k < 2 ^ 58) (hx : EvsOK xs) (hw : k + wM xs < 2 ^ 58) : LCon P 46 [.ar 0 0 xs.length, .int .i64 k] (obE xs) (.int .i64 (k + wM xs)) (obE (mEvs k xs)) := by
 refine LCon.ofJ (n := 77) (rs := [.tmp 4]) (Is.fn Tryz.func46) rfl (Is.call Tryz.call46) Tryz.results46 Tryz.ntmps46 ?_
 simp only [method_specs_simp, seval]
 generalize hgg : plc 0 (obE xs) = gg
 have hx1 := hx.1
 refine SW.whileJ (A := Nat) (fun i => ⟨pad 77 [.ar 0 0 xs.length, .int .i64 (k + wM (xs.take i)), .junk, .junk, .junk, .int .i64 i], .arr true 9 (rowsEv 1 (mixE k xs i)) :: (mixE k xs i).map obI, gg⟩) (fun i => xs.length - i) (fun i => i ≤ xs.length) 0 (Nat.zero_le _) ?_ ?_
 · simp only [mvcgen_simp, method_specs_simp, seval]
   refine ⟨Int.add_zero k, ?_⟩
   rw [mixE_zero]; rfl
 · intro i hi
   have hrl : (rowsEv 1 (mixE k xs i)).length = xs.length := by rw [rowsEv_len, mixE_len]
   refine CW.sound ?_
   simp only [method_specs_simp, seval, hrl]
   refine gB_split (fun h => ?_) (fun h => ?_)
   · simp only [decide_eq_true_eq, Int.ofNat_lt] at h
     obtain ⟨x, hxk⟩ : ∃ x, xs[i]? = some x := ⟨_, List.getElem?_eq_getElem h⟩
     have hmx := mixE_get (k := k) hxk
     have eg : (rowsEv 1 (mixE k xs i)).getD i [] = rowEv (1 + i) x := by rw [List.getD_eq_getElem?_getD, rowsEv_get, hmx]; rfl
     obtain ⟨z, hz⟩ : ∃ z, z = k + wM (xs.take i) := ⟨_, rfl⟩
     have hb : 0 ≤ z ∧ z + 8 + x.prev.length < 2 ^ 58 := by
       have q := wM_app (xs.take i) (xs.drop i)
       rw [List.take_append_drop, drop_cons hxk, wM] at q
       have := wM_nn (xs.take i); have := wM_nn (xs.drop (i + 1))
       omega
     have hl : i < (rowsEv 1 (mixE k xs i)).length := by omega
     generalize hrr : rowsEv 1 (mixE k xs i) = rr at *
     have w1 : IntKind.i64.wrap (z + 1) = z + 1 := wrap_id (by omega) (by omega)
     have w2 : IntKind.i64.wrap (z + 1 + 1) = z + 2 := by rw [wrap_id (by omega) (by omega)]; omega
     have w3 : IntKind.i64.wrap (z + 2 + 1) = z + 3 := by rw [wrap_id (by omega) (by omega)]; omega
     have w4 : IntKind.i64.wrap (z + 3 + 1) = z + 4 := by rw [wrap_id (by omega) (by omega)]; omega
     have w5 : IntKind.i64.wrap (z + 4 + 1) = z + 5 := by rw [wrap_id (by omega) (by omega)]; omega
     have w6 : IntKind.i64.wrap (z + 5 + 1) = z + 6 := by rw [wrap_id (by omega) (by omega)]; omega
     have w7 : IntKind.i64.wrap (z + 6 + 1) = z + 7 := by rw [wrap_id (by omega) (by omega)]; omega
     have w9 : IntKind.i64.wrap ((i : Int) + 1) = ((i + 1 : Nat) : Int) := by rw [wrap_id (by omega) (by omega)]; rfl
     rw [← hz]
     have hgs : ∀ v : List V, (rr.set i v)[i]? = some v := fun v => List.getElem?_set_self hl
     simp only [method_specs_simp, seval, w1, w2, w3, w4, w5, w6, w7, eg, rowEv, List.set_set, getD_set' hl, List.length_set, hrl]
     refine ⟨by omega, by omega, by omega, by omega, by omega, by omega, by omega, by omega, by omega, by omega, by omega, by omega, by omega, by omega, by omega, by omega, by omega, by omega, ?_⟩
     refine clY.con (c147 _ (by omega)) (by simp only [method_specs_simp]) ?_
     simp only [method_specs_simp, seval, w1, w2, w3, w4, w5, w6, w7, eg, rowEv, List.set_set, getD_set' hl, List.length_set, hrl, hgs]
     refine ⟨by omega, by omega, by omega, by omega, by omega, ?_⟩
     have hob : ∀ o : Ob, (o :: (mixE k xs i).map obI)[1 + i]? = some (obI x) := fun o => by
       rw [Nat.add_comm, List.getElem?_cons_succ, List.getElem?_map, hmx]; rfl
     refine clY.at1 (n_markInt64S x.prev (z + 7) (by omega) (by omega) (by omega)) (hob _) (pure_ints _ _) (pure_ints _ _) trivial ⟨trivial, trivial⟩ (by simp only [convs, conv]) ?_
     have hst : ∀ o : Ob, (o :: (mixE k xs i).map obI).set (1 + i) (.arr true 1 ((mInts (z + 7) x.prev.length).map encI)) = o :: ((mixE k xs i).set i (mEv z x)).map obI := fun o => by
       rw [Nat.add_comm, List.set_cons_succ, List.map_set]; rfl
     rw [hst, hz, mixE_set hxk, ← hz]
     obtain ⟨z2, hz2⟩ : ∃ z2, z2 = z + 7 + (x.prev.length : Int) := ⟨_, rfl⟩
     have w8 : IntKind.i64.wrap (z2 + 1) = k + wM (xs.take (i + 1)) := by
       rw [wrap_id (by omega) (by omega), List.take_add_one, hxk, Option.toList_some, wM_app]; simp only [wM]; omega
     rw [← hz2]
     simp only [method_specs_simp, seval, w8, eg, List.set_set, getD_set' hl, List.length_set, hrl, hgs]
     refine ⟨by omega, by omega, by omega, ?_⟩
     have hrow : [V.int .i64 z, V.int .i64 (z + 1), V.int .i64 (z + 2), V.int .i64 (z + 3), V.int .i64 (z + 4), V.int .i64 (z + 5), V.str (mText (z + 6)), V.ar (1 + i) 0 x.prev.length, V.int .i64 z2] = rowEv (1 + i) (mEv z x) := by
       simp only [rowEv, mEv, mInts_len, hz2]
     rw [w9, hrow, ← hrr, rowsEv_set, hz, mixE_set hxk, ← hz]
     refine AgainJ.mk (i + 1) h (Nat.sub_lt_sub_left h (Nat.lt_succ_self _)) ?_
     simp only [mvcgen_simp, method_specs_simp, seval]
   · have hi2 : i = xs.length := by simp only [decide_eq_false_iff_not, Bool.not_true, Int.ofNat_lt] at h; omega
     subst hi2
     rw [List.take_of_length_le (Nat.le_refl _), mixE_all]
     exact ⟨rfl, rfl⟩
def obG (g : Gr) : List Ob := obE g.events ++ obEb (g.events.length + 1) g.parked
def grV (b : Nat) (g : Gr) : List V := [.int .i64 g.room, .ar b 0 g.events.length, .ar (b + (g.events.length + 1)) 0 g.parked.length]
theorem obEb_ren (b c : Nat) (l : List Ev) : (obEb c l).map (Ob.ren (b + ·)) = obEb (b + c) l := by
 unfold obEb
 simp only [List.map_cons, Ob.ren, rowsEv_ren, List.map_map]
 rw [Nat.add_assoc]
 congr 1
 exact List.map_congr_left fun e _ => obI_ren _ e
theorem obEb_refs {n b : Nat} (l : List Ev) (h : b + l.length < n) : ∀ ob ∈ obEb b l, ob.refs (· < n) := fun ob ho => by
 rcases List.mem_cons.1 ho with rfl | ho
 · exact rowsEv_refs (b + 1) l fun i h1 h2 => by omega
 · obtain ⟨e, _, rfl⟩ := List.mem_map.1 ho
   exact obI_refs _ e
theorem obG_len (g : Gr) : (obG g).length = g.events.length + 1 + (g.parked.length + 1) := by simp [obG, obE_len, obEb_len]
theorem obG_refs (g : Gr) : ∀ ob ∈ obG g, ob.refs (· < (obG g).length) := fun ob ho => by
 rw [obG_len]
 rcases List.mem_append.1 ho with ho | ho
 · exact obE_refs _ (by omega) ob ho
 · exact obEb_refs _ (by omega) ob ho
theorem obE_flat (l : List Ev) : ∀ ob ∈ obE l, ob.flat := fun ob ho => by
 rcases List.mem_cons.1 ho with rfl | ho
 · refine ⟨rfl, ?_⟩
   have : ∀ q (l : List Ev), Flatss (rowsEv q l) := fun q l => by
     induction l generalizing q with
     | nil => trivial
     | cons e l ih => exact ⟨⟨trivial, trivial, trivial, trivial, trivial, trivial, trivial, trivial, trivial, trivial⟩, ih (q + 1)⟩
   exact this 1 l
 · obtain ⟨e, _, rfl⟩ := List.mem_map.1 ho
   exact ⟨rfl, flat_ints _⟩
theorem dcv_zero (m : List Ob) (xs : List V) : xs.map (dcv 0 m) = xs := by
 induction xs with
 | nil => rfl
 | cons x xs ih => rw [List.map_cons, ih]; rfl
theorem n_toGraph (g : Gr) (hg : GrOK g) : LCon P 11 [.agg (encGr g)] [] (.agg (grV 0 g)) (obG g) := by
 refine LCon.of (n := 16) (rs := [.cell 2 29]) (Is.fn Tryz.func11) rfl (Is.call Tryz.call11) Tryz.results11 Tryz.ntmps11 ?_
 simp only [method_specs_simp, seval, encGr]
 refine clY.newD 0 (n_toEventS g.events hg.1) (dcv_zero _ _) (by simp only [method_specs_simp]) trivial (obE_flat _) ?_
 rw [obE_ren]
 simp only [method_specs_simp, seval, encGr, obEb]
 refine clY.newD 0 (n_toEventS g.parked hg.2) (dcv_zero _ _) (by simp only [method_specs_simp]) trivial (obE_flat _) ?_
 rw [obE_ren]
 simp only [method_specs_simp, seval, encGr, obEb]
 have hq : ∀ (o : Ob) (L : List Ob), (g.events.map obI ++ o :: L)[g.events.length]? = some o := fun o L => by
   rw [List.getElem?_append_right (by simp), List.length_map, Nat.sub_self]; rfl
 refine ⟨by unfold arrAt; rw [hq]; rfl, by rw [hq], by rw [hq], ?_⟩
 refine LResY.tail3 ?_ ?_ (obG_refs g) ?_
 · unfold obG
   rw [List.map_append, obE_ren, obEb_ren]
   unfold obEb
   simp only [List.length_cons, List.length_nil, List.cons_append, List.nil_append, Nat.zero_add]
   rw [show g.events.length + 1 + 1 + 1 + 1 + 1 = 3 + (g.events.length + 1) + 1 by omega]
 · simp only [grV, V.ren, rens, List.length_cons, List.length_nil, Nat.zero_add]
   rw [show 3 + (g.events.length + 1) = g.events.length + 4 by omega]
 · rw [obG_len]
   exact ⟨trivial, by show 0 < _; omega, by show 0 + (g.events.length + 1) < _; omega, trivial⟩
def mGr (k : Int) (g : Gr) : Gr := ⟨g.room, mEvs k g.events, mEvs (k + wM g.events) g.parked⟩
theorem n_markGraph (g : Gr) (k : Int) (h0 : 0 ≤ k) (h1 : k < 2 ^ 57) (hg : GrOK g) (hw : k + (wM g.events + wM g.parked) < 2 ^ 57) : LCon P 17 [.agg (grV 0 g), .int .i64 k] (obG g) (.int .i64 (k + (wM g.events + wM g.parked))) (obG (mGr k g)) := by
 have n1 := wM_nn g.events
 have n2 := wM_nn g.parked
 have q1 : ∀ o : Ob, (obG g ++ [o])[(obG g).length]? = some o := fun o => List.getElem?_concat_length
 have q2 : ∀ (lv : Bool) (cs : List V), boxAt (obG g ++ [Ob.box lv cs]) (obG g).length = some cs := fun lv cs => by unfold boxAt; rw [q1]
 refine LCon.of (n := 14) (rs := [.tmp 4]) (Is.fn Tryz.func17) rfl (Is.call Tryz.call17) Tryz.results17 Tryz.ntmps17 ?_
 simp only [method_specs_simp, seval, grV]
 simp only [method_specs_simp, seval, grV, q1, q2]
 generalize hbx : Ob.box true [V.int IntKind.i64 g.room, V.ar 0 0 g.events.length, V.ar (g.events.length + 1) 0 g.parked.length] = bx
 refine clY.seg (A := []) (B := obE g.events) (B' := obE (mEvs k g.events)) (C := obEb (g.events.length + 1) g.parked ++ [bx]) (n_markEventS g.events k h0 (by omega) hg.1 (by omega)) ?_ ?_ ?_ ?_ trivial ?_ ?_ ?_ ?_
 · rw [obE_len, obE_len, mEvs_len]
 · exact fun ob ho => ⟨obE_refs _ (by rw [obE_len]; omega) ob ho, obE_alive _ ob ho⟩
 · exact obE_refs _ (by rw [obE_len, mEvs_len]; omega)
 · rw [obE_len]; exact ⟨by show 0 < _; omega, trivial, trivial⟩
 · have e : (obE g.events).map (Ob.ren (([] : List Ob).length + ·)) = obE g.events := by rw [obE_b]; exact (obEb_ren 0 0 _)
   rw [e]
   simp only [obG, List.nil_append, List.append_assoc]
 · rfl
 · simp only [convs, conv, List.nil_append, List.append_nil]
   rfl
 have e : (obE (mEvs k g.events)).map (Ob.ren (([] : List Ob).length + ·)) = obE (mEvs k g.events) := by rw [obE_b]; exact (obEb_ren 0 0 _)
 rw [e, List.nil_append, ← List.append_assoc]
 obtain ⟨G2, hG2⟩ : ∃ G2, G2 = obE (mEvs k g.events) ++ obEb (g.events.length + 1) g.parked := ⟨_, rfl⟩
 have hl2 : G2.length = (obG g).length := by rw [hG2, obG_len, List.length_append, obE_len, obEb_len, mEvs_len]
 have q3 : ∀ o : Ob, (G2 ++ [o])[(obG g).length]? = some o := fun o => by rw [← hl2]; exact List.getElem?_concat_length
 have q4 : ∀ (lv : Bool) (cs : List V), boxAt (G2 ++ [Ob.box lv cs]) (obG g).length = some cs := fun lv cs => by unfold boxAt; rw [q3]
 rw [← hG2, ← hbx]
 simp only [method_specs_simp, seval, grV, q3, q4]
 rw [hbx, hG2]
 have hA : (obE (mEvs k g.events)).length = g.events.length + 1 := by rw [obE_len, mEvs_len]
 refine clY.seg (A := obE (mEvs k g.events)) (B := obE g.parked) (B' := obE (mEvs (k + wM g.events) g.parked)) (C := [bx]) (n_markEventS g.parked (k + wM g.events) (by omega) (by omega) hg.2 (by omega)) ?_ ?_ ?_ ?_ trivial ?_ ?_ ?_ ?_
 · rw [obE_len, obE_len, mEvs_len]
 · exact fun ob ho => ⟨obE_refs _ (by rw [obE_len]; omega) ob ho, obE_alive _ ob ho⟩
 · exact obE_refs _ (by rw [obE_len, mEvs_len]; omega)
 · rw [obE_len]; exact ⟨by show 0 < _; omega, trivial, trivial⟩
 · rw [hA, obE_ren]
 · simp only [rens, V.ren, hA, Nat.add_zero, List.nil_append, List.append_nil]
 · have hq : (obE (mEvs k g.events) ++ obEb (g.events.length + 1) g.parked ++ [bx])[g.events.length + 1]? = some (.arr true 9 (rowsEv (g.events.length + 1 + 1) g.parked)) := by
     rw [List.append_assoc, List.getElem?_append_right (by omega), hA, Nat.sub_self]; rfl
   simp only [convs, conv, List.nil_append, List.append_nil, hq]
 rw [hA, obE_ren]
 have hG3 : obE (mEvs k g.events) ++ obEb (g.events.length + 1) (mEvs (k + wM g.events) g.parked) = obG (mGr k g) := by
   unfold obG mGr
   simp only [mEvs_len]
 rw [hG3, show k + wM g.events + wM g.parked = k + (wM g.events + wM g.parked) by omega]
 obtain ⟨v, hv⟩ : ∃ v, v = k + (wM g.events + wM g.parked) := ⟨_, rfl⟩
 rw [← hv]
 simp only [method_specs_simp, seval, grV]
 refine LResY.head rfl ?_ (obG_refs _) trivial
 rw [obG_len, obG_len]
 simp only [mGr, mEvs_len]
end
end Go.Proofs.YtdldgbkdcpdbeaaGreat
end

section
namespace Go.Proofs.YtdldgbkdcpdbeaaGreat
open Go.Pm
open Go.Gm (Ev Gr)
@[method_specs_simp] theorem encGr_take (g : Gr) : List.take 3 (encGr g) = encGr g := nr rfl
@[method_specs_simp] theorem encGr_three (g : Gr) : (3 ≤ (encGr g).length) = True := eq_true (Nat.le_refl 3)
theorem VLe.zEv : VLes zEv (encEv zE) := VLes.same (VLes.same (VLes.same (VLes.same (VLes.same (VLes.same (VLes.same (VLes.cons (VLe.nil 1) (VLes.same VLes.nil))))))))
section
variable {P : Program} [Is P]
theorem n_cloneI (xs : List Int) (hx : xs.length * 8 ≤ 2 ^ 47) : NCon P 145 [.sl 1 (xs.map encI)] (.ar 0 0 xs.length) [.arr true 1 (xs.map encI)] := by
 refine LCon.new (LCon.of (n := 8) (rs := [.tmp 2]) (Is.fn Tryz.func145) rfl (Is.call Tryz.call145) Tryz.results145 Tryz.ntmps145 ?_) (pure1 (pure_ints _ _))
 simp only [method_specs_simp, seval]
 refine nilY.eql (fun h => ?_) ?_
 · rw [List.map_eq_nil_iff] at h
   subst h
   simp only [method_specs_simp, seval]
   exact LResY.nil (by decide)
 · simp only [method_specs_simp, seval]
   refine ⟨by omega, by omega, ?_⟩
   refine LResY.mk [1] ?_
   simp only [mvcgen_simp, method_specs_simp, seval]
end
end Go.Proofs.YtdldgbkdcpdbeaaGreat
end

section
namespace Go.Proofs.YtdldgbkdcpdbeaaGreat
open Go.Pm
open Go.Gm (Ev Gr)
set_option maxHeartbeats 4000000
structure Past (G : List Ob) (N : Nat) : Prop where
 len : G.length = N
 g0 : ∀ L : List Ob, (G ++ L)[N]? = L[0]?
 g : ∀ (L : List Ob) (k : Nat), (G ++ L)[N + k]? = L[k]?
 b0 : ∀ L : List Ob, boxAt (G ++ L) N = boxAt L 0
 b : ∀ (L : List Ob) (k : Nat), boxAt (G ++ L) (N + k) = boxAt L k
 v0 : ∀ L : List Ob, boxLv (G ++ L) N = boxLv L 0
 v : ∀ (L : List Ob) (k : Nat), boxLv (G ++ L) (N + k) = boxLv L k
 a0 : ∀ L : List Ob, arrAt (G ++ L) N = arrAt L 0
 a : ∀ (L : List Ob) (k : Nat), arrAt (G ++ L) (N + k) = arrAt L k
 w0 : ∀ L : List Ob, arrLv (G ++ L) N = arrLv L 0
 w : ∀ (L : List Ob) (k : Nat), arrLv (G ++ L) (N + k) = arrLv L k
 s0 : ∀ (L : List Ob) (o : Ob), (G ++ L).set N o = G ++ L.set 0 o
 s : ∀ (L : List Ob) (k : Nat) (o : Ob), (G ++ L).set (N + k) o = G ++ L.set k o
theorem Past.mk' {G : List Ob} {N : Nat} (h : G.length = N) : Past G N := by
 have g : ∀ (L : List Ob) (k : Nat), (G ++ L)[N + k]? = L[k]? := fun L k => by
   rw [List.getElem?_append_right (by omega), h, Nat.add_sub_cancel_left]
 have g0 : ∀ L : List Ob, (G ++ L)[N]? = L[0]? := fun L => g L 0
 have s : ∀ (L : List Ob) (k : Nat) (o : Ob), (G ++ L).set (N + k) o = G ++ L.set k o := fun L k o => by
   rw [List.set_append_right _ _ (by omega), h, Nat.add_sub_cancel_left]
 exact ⟨h, g0, g, fun L => by unfold boxAt; rw [g0], fun L k => by unfold boxAt; rw [g], fun L => by unfold boxLv; rw [g0], fun L k => by unfold boxLv; rw [g], fun L => by unfold arrAt; rw [g0], fun L k => by unfold arrAt; rw [g], fun L => by unfold arrLv; rw [g0], fun L k => by unfold arrLv; rw [g], fun L o => s L 0 o, s⟩
def obGb (b : Nat) (g : Gr) : List Ob := obEb b g.events ++ obEb (b + (g.events.length + 1)) g.parked
theorem obG_ren (b : Nat) (g : Gr) : (obG g).map (Ob.ren (b + ·)) = obGb b g := by
 unfold obG obGb
 rw [List.map_append, obE_ren, obEb_ren]
theorem obGb_len (b : Nat) (g : Gr) : (obGb b g).length = g.events.length + 1 + (g.parked.length + 1) := by simp [obGb, obEb_len]
def LiesG (m : List Ob) (b : Nat) (g : Gr) : Prop := ∀ i ob, (obGb b g)[i]? = some ob → m[b + i]? = some ob
theorem LiesG.mk {A C m : List Ob} {b : Nat} {g : Gr} (h : A.length = b) (em : m = A ++ (obGb b g ++ C)) : LiesG m b g := fun i ob hi => by
 subst em; subst h
 rw [List.getElem?_append_right (by omega), Nat.add_sub_cancel_left, List.getElem?_append_left (List.getElem?_eq_some_iff.1 hi).1]
 exact hi
theorem dcv_row {m : List Ob} {q : Nat} {e : Ev} (h : m[q]? = some (obI e)) : (rowEv q e).map (dcv 1 m) = encEv e := by
 simp only [rowEv, List.map_cons, List.map_nil, dcv, h, obI, encEv, List.drop_zero]
 rw [List.take_of_length_le (by simp)]
 congr 9
 simp only [List.map_id', List.map_id_fun']
 try simp
theorem dcv_encG (m : List Ob) (n : Nat) (g : Gr) : dcv (n + 2) m (.agg (encGr g)) = .agg (encGr g) := rfl
theorem dcv_rows {m : List Ob} : ∀ (l : List Ev) (q : Nat), (∀ i e, l[i]? = some e → m[q + i]? = some (obI e)) → (rowsEv q l).map (fun c => c.map (dcv 1 m)) = l.map encEv
 | [], q, h => rfl
 | e :: l, q, h => by
   simp only [rowsEv, List.map_cons]
   rw [dcv_row (q := q) (h 0 e rfl), dcv_rows l (q + 1) fun i x hi => by rw [Nat.add_assoc, Nat.add_comm 1 i]; exact h (i + 1) x hi]
theorem dcv_evs {m : List Ob} {b : Nat} {l : List Ev} (h : ∀ i ob, (obEb b l)[i]? = some ob → m[b + i]? = some ob) : dcv 2 m (.ar b 0 l.length) = .sl 9 (l.map encEv) := by
 have h0 := h 0 _ rfl
 rw [Nat.add_zero] at h0
 simp only [dcv, h0, List.drop_zero]
 rw [List.take_of_length_le (by rw [rowsEv_len]; exact Nat.le_refl _)]
 congr 1
 refine dcv_rows l (b + 1) fun i e hi => ?_
 rw [Nat.add_assoc, Nat.add_comm 1 i]
 refine h (i + 1) _ ?_
 unfold obEb
 rw [List.getElem?_cons_succ, List.getElem?_map, hi]; rfl
theorem LiesG.dcv {m : List Ob} {b : Nat} {g : Gr} (h : LiesG m b g) : Go.Pm.dcv 3 m (.agg (grV b g)) = .agg (encGr g) := by
 have h1 : Go.Pm.dcv 2 m (.ar b 0 g.events.length) = .sl 9 (g.events.map encEv) := dcv_evs fun i ob hi => h i ob (by
   unfold obGb
   rw [List.getElem?_append_left (List.getElem?_eq_some_iff.1 hi).1]; exact hi)
 have h2 : Go.Pm.dcv 2 m (.ar (b + (g.events.length + 1)) 0 g.parked.length) = .sl 9 (g.parked.map encEv) := dcv_evs fun i ob hi => by
   have := h (g.events.length + 1 + i) ob (by
     unfold obGb
     rw [List.getElem?_append_right (by rw [obEb_len]; omega), obEb_len, Nat.add_sub_cancel_left]; exact hi)
   rw [← this]; congr 1; omega
 show V.agg [Go.Pm.dcv 2 m (.int .i64 g.room), Go.Pm.dcv 2 m (.ar b 0 g.events.length), Go.Pm.dcv 2 m (.ar (b + (g.events.length + 1)) 0 g.parked.length)] = _
 rw [h1, h2]; rfl
theorem obGb_at (g : Gr) (b : Nat) (L : List Ob) : (obGb b g ++ L)[g.events.length + 1]? = some (.arr true 9 (rowsEv (b + (g.events.length + 1) + 1) g.parked)) := by
 unfold obGb
 rw [List.append_assoc, List.getElem?_append_right (by rw [obEb_len]; omega), obEb_len, Nat.sub_self]
 rfl
theorem obGb_one (g : Gr) (a : Ob) (L : List Ob) : (a :: (obGb 1 g ++ L))[1 + (g.events.length + 1)]? = some (.arr true 9 (rowsEv (1 + (g.events.length + 1) + 1) g.parked)) := by
 rw [show 1 + (g.events.length + 1) = (g.events.length + 1) + 1 by omega, List.getElem?_cons_succ, obGb_at]
 rw [show 1 + (g.events.length + 1) = g.events.length + 1 + 1 by omega]
theorem obEb_flat (b : Nat) (l : List Ev) : ∀ ob ∈ obEb b l, ob.flat := fun ob ho => by
 rcases List.mem_cons.1 ho with rfl | ho
 · refine ⟨rfl, ?_⟩
   have : ∀ q (l : List Ev), Flatss (rowsEv q l) := fun q l => by
     induction l generalizing q with
     | nil => trivial
     | cons e l ih => exact ⟨⟨trivial, trivial, trivial, trivial, trivial, trivial, trivial, trivial, trivial, trivial⟩, ih (q + 1)⟩
   exact this _ l
 · obtain ⟨e, _, rfl⟩ := List.mem_map.1 ho
   exact ⟨rfl, flat_ints _⟩
theorem obG_flat (g : Gr) : ∀ ob ∈ obG g, ob.flat := fun ob ho => by
 rcases List.mem_append.1 ho with ho | ho
 · exact obE_flat _ ob ho
 · exact obEb_flat _ _ ob ho
theorem grV_flat (b : Nat) (g : Gr) : Flat (.agg (grV b g)) := ⟨trivial, trivial, trivial, trivial⟩
theorem obG_alive (g : Gr) : ∀ ob ∈ obG g, ob.alive = true := fun ob ho => by
 rcases List.mem_append.1 ho with ho | ho
 · exact obE_alive _ ob ho
 · rcases List.mem_cons.1 ho with rfl | ho
   · rfl
   · obtain ⟨e, _, rfl⟩ := List.mem_map.1 ho
     rfl
theorem clY.segG {P : Program} {f : FuncId} {A L : List Ob} {rest : List V} {g g' : Gr} {r : V} {K KL : V → List Ob → Prop} (h : LCon P f (.agg (grV 0 g) :: rest) (obG g) r (obG g')) (hl : (obG g').length = (obG g).length)
   (hr : Ref (fun _ => False) r) (hrest : Refs (fun _ => False) rest) (hcv : ∀ m, convs m rest = rest)
   (k : KL r (A ++ (obGb A.length g' ++ L))) : @clY P (.fn f [] []) (.agg (grV A.length g) :: rest) (A ++ (obGb A.length g ++ L)) ⟨K, KL⟩ := by
 refine clY.seg (A := A) (B := obG g) (B' := obG g') (C := L) h hl (fun ob ho => ⟨obG_refs g ob ho, obG_alive g ob ho⟩) (fun ob ho => by rw [← hl]; exact obG_refs g' ob ho) ⟨?_, Refs.mono (fun _ h => h.elim) _ hrest⟩ (Ref.mono (fun _ h => h.elim) _ hr) ?_ ?_ ?_ ?_
 · rw [obG_len]
   exact ⟨trivial, by show 0 < _; omega, by show 0 + (g.events.length + 1) < _; omega, trivial⟩
 · rw [obG_ren, List.append_assoc]
 · simp only [grV, rens, V.ren, rens_pure _ hrest, List.nil_append, List.append_nil, Nat.add_zero, Nat.zero_add]
 · have h1 : (A ++ (obGb A.length g ++ L))[A.length]? = some (.arr true 9 (rowsEv (A.length + 1) g.events)) := by
     rw [List.getElem?_append_right (Nat.le_refl _), Nat.sub_self]; rfl
   have h2 : (A ++ (obGb A.length g ++ L))[A.length + (g.events.length + 1)]? = some (.arr true 9 (rowsEv (A.length + (g.events.length + 1) + 1) g.parked)) := by
     rw [List.getElem?_append_right (by omega), Nat.add_sub_cancel_left]
     unfold obGb
     rw [List.append_assoc, List.getElem?_append_right (by rw [obEb_len]; omega), obEb_len, Nat.sub_self]; rfl
   simp only [List.nil_append, List.append_nil, convs, hcv, grV, conv, h1, h2]
 · rw [V.ren_pure _ hr, obG_ren, List.append_assoc]; exact k
theorem clY.atE {P : Program} {f : FuncId} {q : Nat} {rest : List V} {m : List Ob} {e : Ev} {zs' : List (List V)} {r : V} {K KL : V → List Ob → Prop} (h : LCon P f (.agg (rowEv 0 e) :: rest) [obI e] r [.arr true 1 zs'])
   (hq : m[q]? = some (obI e)) (hp' : (Ob.arr true 1 zs').pure) (hr : Ref (fun _ => False) r) (hrest : Refs (fun _ => False) rest) (hcv : ∀ m, convs m rest = rest)
   (k : KL r (m.set q (.arr true 1 zs'))) : @clY P (.fn f [] []) (.agg (rowEv q e) :: rest) m ⟨K, KL⟩ := by
 have hlt := (List.getElem?_eq_some_iff.1 hq).1
 have hp : (obI e).pure := pure_ints _ _
 have hl : (m.take q).length = q := by rw [List.length_take]; omega
 have hx : (m.drop q) = obI e :: m.drop (q + 1) := by rw [List.drop_eq_getElem_cons hlt, (List.getElem?_eq_some_iff.1 hq).2]
 refine clY.seg (A := m.take q) (B := [obI e]) (B' := [.arr true 1 zs']) (C := m.drop (q + 1)) h rfl (fun ob ho => ?_) (fun ob ho => ?_) ⟨⟨trivial, trivial, trivial, trivial, trivial, trivial, trivial, Nat.zero_lt_one, trivial, trivial⟩, Refs.mono (fun _ h => h.elim) _ hrest⟩ (Ref.mono (fun _ h => h.elim) _ hr) ?_ ?_ ?_ ?_
 · rw [List.mem_singleton] at ho; subst ho; exact ⟨obI_refs _ _, rfl⟩
 · rw [List.mem_singleton] at ho; subst ho; exact Refss.mono (fun _ h => h.elim) _ hp'
 · rw [List.map_singleton, Ob.ren_pure _ hp, List.append_assoc, List.singleton_append, ← hx, List.take_append_drop]
 · simp only [rowEv, rens, V.ren, hl, Nat.add_zero, rens_pure _ hrest, List.nil_append, List.append_nil]
 · simp only [List.nil_append, List.append_nil, convs, hcv, rowEv, conv, hq, obI]
 · rw [V.ren_pure _ hr, List.map_singleton, Ob.ren_pure _ hp', List.append_assoc, List.singleton_append]
   have : m.take q ++ .arr true 1 zs' :: m.drop (q + 1) = m.set q (.arr true 1 zs') := by
     apply List.ext_getElem?
     intro j
     rw [List.getElem?_append, List.getElem?_set, hl, List.getElem?_take]
     by_cases h1 : j < q
     · rw [if_pos h1, if_pos h1, if_neg (by omega)]
     · rw [if_neg h1]
       by_cases h2 : q = j
       · subst h2
         rw [if_pos rfl, if_pos hlt, Nat.sub_self]; rfl
       · rw [if_neg h2, show j - q = (j - q - 1) + 1 by omega, List.getElem?_cons_succ, List.getElem?_drop]
         congr 1; omega
   rw [this]; exact k
theorem clY.segG1 {P : Program} {f : FuncId} {a : Ob} {G L : List Ob} {rest : List V} {g g' : Gr} {r : V} {K KL : V → List Ob → Prop} (hG : G = obGb 1 g) (h : LCon P f (.agg (grV 0 g) :: rest) (obG g) r (obG g')) (hl : (obG g').length = (obG g).length)
   (hr : Ref (fun _ => False) r) (hrest : Refs (fun _ => False) rest) (hcv : ∀ m, convs m rest = rest)
   (k : KL r (a :: (obGb 1 g' ++ L))) : @clY P (.fn f [] []) (.agg (grV 1 g) :: rest) (a :: (G ++ L)) ⟨K, KL⟩ := by
 subst hG
 exact clY.segG (A := [a]) h hl hr hrest hcv k
theorem mGr_len (k : Int) (g : Gr) : (obG (mGr k g)).length = (obG g).length := by rw [obG_len, obG_len]; simp only [mGr, mEvs_len]
section
variable {P : Program} [Is P]
end
end Go.Proofs.YtdldgbkdcpdbeaaGreat
end

section
namespace Go.Proofs.YtdldgbkdcpdbeaaGreat
open Go.Pm
open Go.Gm (Ev Gr)
set_option maxHeartbeats 4000000
@[method_specs_simp] theorem refss_nil (ok : Nat → Prop) : Refss ok [] = True := eq_true trivial
theorem dcv_flat {m : List Ob} {q n sz : Nat} {lv : Bool} {zs : List (List V)} (h : m[q]? = some (.arr lv sz zs)) (hn : zs.length = n) : dcv 1 m (.ar q 0 n) = .sl sz zs := by
 simp only [dcv, h, List.drop_zero]
 rw [List.take_of_length_le (by omega)]
 congr 1
 simp only [List.map_id', List.map_id_fun']
 try simp
section
variable {P : Program} [Is P]
end
end Go.Proofs.YtdldgbkdcpdbeaaGreat
end

section
section
namespace Go.Pm
open Go.RowKit Go.Sort
theorem grow_of {w w' : World} (h : Grow w w') : ∃ q os, w' = Go.Sort.grow (w.drewN q) os := by
 refine ⟨w'.drawn - w.drawn, w'.heap.extract w.heap.size w'.heap.size, ?_⟩
 have h1 := h.os; have h2 := h.tape; have h3 := h.output; have h4 := h.size; have h5 := h.block; have h6 := h.drawn
 have hh : w'.heap = w.heap ++ w'.heap.extract w.heap.size w'.heap.size := by
   apply Array.ext_getElem?
   intro i
   rw [Array.getElem?_append]
   split
   · rename_i hi
     exact h5 i hi
   · rename_i hi
     rw [Array.getElem?_extract]
     split
     · congr 1; omega
     · rw [Array.getElem?_eq_none]; omega
 cases w' with
 | mk heap tape drawn os output =>
   simp only at h1 h2 h3 hh h6
   subst h1; subst h2; subst h3
   simp only [Go.Sort.grow, World.drewN]
   congr 1
   omega
theorem sorted_world {α : Type} [Inhabited α] {e1 : α → Value} {w : World} {b n : Nat} {D : Array α} {os : Array Obj} {us : Array Value} {e : TypeId} {fr : Nat × Nat} (hb : w.heap[b]? = some (.cells us e fr)) :
   (Go.Sort.grow (putRow e1 (Go.Sort.ahead w n) b 0 D) os).heap[b]? = some (.cells (putCells e1 0 D us) e fr) ∧ Frame (fun i => i = b) w (Go.Sort.grow (putRow e1 (Go.Sort.ahead w n) b 0 D) os) := by
 have hlt := (Array.getElem?_eq_some_iff.1 hb).1
 have hs : (putRow e1 (Go.Sort.ahead w n) b 0 D).heap.size = w.heap.size := by rw [size_putRow]; rfl
 have hg : ∀ i, i < w.heap.size → (Go.Sort.grow (putRow e1 (Go.Sort.ahead w n) b 0 D) os).heap[i]? = (putRow e1 (Go.Sort.ahead w n) b 0 D).heap[i]? := fun i hi => by
   show (_ ++ os)[i]? = _
   rw [Array.getElem?_append_left (by rw [hs]; exact hi)]
 have hm : ∀ i, (putRow e1 (Go.Sort.ahead w n) b 0 D).heap[i]? = if b = i then (w.heap[i]?).map (onCells (putCells e1 0 D)) else w.heap[i]? := fun i => by
   show (w.heap.modify b _)[i]? = _
   rw [Array.getElem?_modify]
 refine ⟨?_, ⟨rfl, rfl, rfl, ?_, fun i hi hne => ?_, Nat.le_add_right _ _⟩⟩
 · rw [hg b hlt, hm, if_pos rfl, hb]; rfl
 · show w.heap.size ≤ (_ ++ os).size
   rw [Array.size_append, hs]; omega
 · rw [hg i hi, hm, if_neg (fun h => hne h.symm)]
theorem size_putCells {α : Type} [Inhabited α] (e1 : α → Value) (D : Array α) (us : Array Value) : (putCells e1 0 D us).size = us.size := by simp [putCells]
theorem get_putCells {α : Type} [Inhabited α] (e1 : α → Value) (D : Array α) (us : Array Value) (j : Nat) (hj : j < D.size) (hu : D.size ≤ us.size) : (putCells e1 0 D us)[j]? = some (e1 D[j]!) := by
 have h2 : j < us.size := by omega
 simp [putCells, hj, h2]
theorem live_arr {k : Nat} {xs : List (List V)} {l : Lc} {b : Nat} : liveAt [.arr true k xs] [l] b ↔ l.cap ≠ 0 ∧ b = l.b := by
 constructor
 · rintro ⟨o, ob, l', h1, h2, h3⟩
   cases o with
   | zero =>
     simp at h1 h2
     subst h1; subst h2
     simp only [Ob.blk] at h3
     split at h3
     · cases h3
     · rename_i hc; injection h3 with h3; exact ⟨hc, h3.symm⟩
   | succ o => simp at h1
 · rintro ⟨h1, rfl⟩
   exact ⟨0, _, l, rfl, rfl, by simp only [Ob.blk]; rw [if_neg h1]⟩
theorem sorted_mem {α : Type} [Inhabited α] {e1 : α → Value} {w : World} {Zo : Nat → Prop} {l : Lc} {k n : Nat} {xs ys : List (List V)} {D : Array α} {os : Array Obj} {us : Array Value} {e : TypeId} {fr : Nat × Nat} {vs : List Value}
   (M : Mem w Zo [.arr true k xs] [l]) (hb : w.heap[l.b]? = some (.cells us e fr)) (hus : us.size = l.cap * k) (hc : l.cap ≠ 0) (hlen : ys.length = xs.length) (hrow : ∀ y ∈ ys, y.length = k) (hD : D.size = xs.length * k)
   (hp : Refs (fun _ => False) ys.flatten) (hv : RVs (cx w (fun b => Zo b ∨ liveAt [.arr true k xs] [l] b) [] []) ys.flatten vs) (hvs : ∀ j v, vs[j]? = some v → j < D.size ∧ e1 D[j]! = v) :
   Frame (liveAt [.arr true k xs] [l]) w (Go.Sort.grow (putRow e1 (Go.Sort.ahead w n) l.b 0 D) os) ∧ Mem (Go.Sort.grow (putRow e1 (Go.Sort.ahead w n) l.b 0 D) os) Zo [.arr true k ys] [l] ∧
     RVs (cx (Go.Sort.grow (putRow e1 (Go.Sort.ahead w n) l.b 0 D) os) Zo [.arr true k ys] [l]) (plc 0 [.arr true k xs]) (plv [.arr true k xs] [l]) ∧ ∀ b, liveAt [.arr true k ys] [l] b → liveAt [.arr true k xs] [l] b ∨ w.heap.size ≤ b := by
 obtain ⟨h1, h2⟩ := sorted_world (e1 := e1) (n := n) (D := D) (os := os) hb
 obtain ⟨k1, k2, k3, k4⟩ := M.ok 0 _ l rfl rfl
 rcases k4 with k4 | ⟨us0, e0, fr0, g1, g2, g3, g4, g5⟩
 · exact absurd k4 hc
 have g1 : w.heap[l.b]? = some (.cells us0 e0 fr0) := g1
 rw [hb] at g1
 injection g1 with g1
 injection g1 with g1 g6 g7
 subst g1; subst g6; subst g7
 generalize hW : Go.Sort.grow (putRow e1 (Go.Sort.ahead w n) l.b 0 D) os = W at h1 h2
 have hF : Frame (liveAt [.arr true k xs] [l]) w W := h2.mono fun i hi => live_arr.2 ⟨hc, hi⟩
 have hcle : D.size ≤ us.size := by rw [hD, hus]; exact Nat.mul_le_mul_right k k1
 have htr : Tr (cx w (fun b => Zo b ∨ liveAt [.arr true k xs] [l] b) [] []) (cx W Zo [.arr true k ys] [l]) (fun o => o) (fun _ => False) := by
   refine ⟨fun b hf => ⟨⟨Nat.lt_of_lt_of_le hf.1 hF.size, ?_⟩, hF.block b hf.1 fun q => hf.2 (.inl (.inr q))⟩, fun _ h => h.elim⟩
   rintro (hz | hz)
   · exact hf.2 (.inl (.inl hz))
   · exact hf.2 (.inl (.inr (live_arr.2 (live_arr.1 hz))))
 have hv2 : RVs (cx W Zo [.arr true k ys] [l]) ys.flatten vs := by
   have := RVs.tr htr ys.flatten vs hp hv
   rwa [rens_id] at this
 refine ⟨hF, ⟨rfl, ?_, ?_, ?_, fun b hz => Nat.lt_of_lt_of_le (M.zlt b hz) hF.size⟩, ?_, fun b hb => .inl (live_arr.2 (live_arr.1 hb))⟩
 · intro o ob l' a1 a2
   cases o with
   | zero =>
     simp at a1 a2
     subst a1; subst a2
     refine ⟨by rw [hlen]; exact k1, k2, k3, .inr ⟨_, _, _, h1, by rw [size_putCells]; exact g2, by rw [size_putCells]; exact g3, ?_, .inl rfl⟩⟩
     refine RR.of hrow hv2 fun j u hj => ?_
     show W.cell? ⟨l.b, 0 + j, none⟩ = some u
     rw [cell_at h1, Nat.zero_add]
     obtain ⟨q1, q2⟩ := hvs j u hj
     rw [get_putCells e1 D us j q1 hcle, q2]
   | succ o => simp at a1
 · intro o o' ob ob' l1 l2 b a1 a2 a3 a4 a5 a6
   cases o with
   | zero =>
     cases o' with
     | zero => rfl
     | succ o' => simp at a2
   | succ o => simp at a1
 · exact fun b hb hz => M.out b (live_arr.2 (live_arr.1 hb)) hz
 · refine ⟨_, _, rfl, ?_, ⟨_, _, rfl, ?_, rfl⟩⟩
   · exact ⟨by rw [hlen]; omega, _, rfl, fun _ => rfl⟩
   · rfl
section
variable {P : Program} {f c : FuncId}
structure El {β : Type} (encB : β → List V) (l : List β) (c0 : Cx) where
 b : β
 row : List Value
 mem : b ∈ l
 rv : RVs c0 (encB b) row
theorem sort_get {β : Type} {encB : β → List V} {l : List β} {c0 : Cx} [Inhabited (El encB l c0)] {k : Nat} (henc : ∀ b, (encB b).length = k) (d : Array (El encB l c0)) (hk : 0 < k) :
   RVs c0 ((d.toList.map fun p => encB p.b).flatten) (d.toList.map (·.row)).flatten ∧ ∀ j v, ((d.toList.map (·.row)).flatten)[j]? = some v → j < (flatK (fun p : El encB l c0 => p.row) k d).size ∧ id (flatK (fun p : El encB l c0 => p.row) k d)[j]! = v := by
 constructor
 · generalize d.toList = L
   induction L with
   | nil => rfl
   | cons p L ih =>
     simp only [List.map_cons, List.flatten_cons]
     exact p.rv.append ih
 · intro j v hj
   have hrl : ∀ p : El encB l c0, p.row.length = k := fun p => by rw [p.rv.length, henc]
   have hlen : ((d.toList.map (·.row)).flatten).length = d.size * k := by
     rw [← Array.length_toList]
     generalize d.toList = L
     induction L with
     | nil => simp
     | cons p L ih =>
       simp only [List.map_cons, List.flatten_cons, List.length_append, List.length_cons, hrl, Nat.add_mul, Nat.one_mul, ih]
       omega
   have hjl := (List.getElem?_eq_some_iff.1 hj).1
   rw [hlen] at hjl
   refine ⟨by rw [size_flatK]; exact hjl, ?_⟩
   show (flatK _ k d)[j]! = v
   rw [get_flatK _ k d j hjl]
   have key : ∀ (L : List (El encB l c0)) (j : Nat), j < L.length * k → ((L.map (·.row)).flatten)[j]? = some ((L.getD (j / k) default).row.getD (j % k) default) := by
     intro L
     induction L with
     | nil => intro j h; simp at h
     | cons p L ih =>
       intro j h
       simp only [List.map_cons, List.flatten_cons]
       by_cases hlt : j < k
       · rw [List.getElem?_append_left (by rw [hrl]; exact hlt), Nat.div_eq_of_lt hlt, Nat.mod_eq_of_lt hlt]
         simp only [List.getD_cons_zero]
         rw [List.getD_eq_getElem?_getD, List.getElem?_eq_getElem (by rw [hrl]; exact hlt)]; rfl
       · rw [List.getElem?_append_right (by rw [hrl]; omega), hrl]
         have h2 : j - k < L.length * k := by simp only [List.length_cons, Nat.add_mul, Nat.one_mul] at h; omega
         have h3 : j / k = (j - k) / k + 1 := by rw [Nat.div_eq_sub_div hk (by omega)]
         have h4 : j % k = (j - k) % k := Nat.mod_eq_sub_mod (by omega)
         rw [ih _ h2, h3, h4, List.getD_cons_succ]
   have hdl : d.toList.length = d.size := Array.length_toList
   have := key d.toList j (by rw [hdl]; exact hjl)
   rw [hj] at this
   injection this with this
   rw [this]
   have hjd : j / k < d.size := (Nat.div_lt_iff_lt_mul hk).2 hjl
   have e1 : d[j / k]! = d.toList.getD (j / k) default := by
     rw [List.getD_eq_getElem?_getD, Array.getElem?_toList, getElem!_def]
     cases d[j / k]? <;> rfl
   rw [e1]
   have : ∀ (r : List Value) (i : Nat), r[i]! = r.getD i default := fun r i => by
     rw [List.getD_eq_getElem?_getD, getElem!_def]
     cases r[i]? <;> rfl
   rw [this]
theorem refs_app {ok : Nat → Prop} : ∀ {xs ys : List V}, Refs ok xs → Refs ok ys → Refs ok (xs ++ ys)
 | [], _, _, h => h
 | x :: xs, _, h1, h2 => ⟨h1.1, refs_app h1.2 h2⟩
theorem els {β : Type} {encB : β → List V} {l : List β} {c c0 : Cx} {b k : Nat} (hw : c.w = c0.w) (htr : ∀ x us, RVs c (encB x) us → RVs c0 (encB x) us) : ∀ (l1 : List β) (o : Nat), (∀ x ∈ l1, x ∈ l) → RR c k b o (l1.map encB) →
   ∃ L : List (El encB l c0), L.map (·.b) = l1 ∧ ∀ i p, L[i]? = some p → ∀ j u, p.row[j]? = some u → c0.w.cell? ⟨b, o + i * k + j, none⟩ = some u
 | [], o, _, _ => ⟨[], rfl, fun i p h => by simp at h⟩
 | x :: l1, o, hm, ⟨h1, h2, h3⟩ => by
   obtain ⟨row, k1, k2, k3⟩ := h2.list
   obtain ⟨L, g1, g2⟩ := els hw htr l1 (o + k) (fun y hy => hm y (List.mem_cons_of_mem _ hy)) h3
   refine ⟨⟨x, row, hm x List.mem_cons_self, htr x row k1⟩ :: L, by rw [List.map_cons, g1], fun i p hi j u hj => ?_⟩
   cases i with
   | zero =>
     simp at hi; subst hi
     rw [← hw]
     have := k3 j u hj
     simpa using this
   | succ i =>
     have := g2 i p (by simpa using hi) j u hj
     rw [Nat.add_mul, Nat.one_mul]
     rwa [show o + (i * k + k) + j = o + k + i * k + j by omega]
def KSort (P : Program) (f : FuncId) (k : Nat) : Prop := ∀ {α : Type} [Inhabited α] (enc : α → List Value) (hk : ∀ x, (enc x).length = k) (h1 : ∀ x, ∀ v ∈ enc x, v.oneCell' = true) (cf : α → α → Int) (hO : SWO (Go.Proofs.ltOf cf)) (g : Nat) (cb : Array Value) (blk off cap : Nat) (d : Array α) (w : World)
   (eg : ∀ args w, (callFunc g args).run P w = .ok (.enter g args) w) (hcmp : Go.Proofs.CmpLays P g cb enc k cf blk off d.size w) (hH : HoldsK enc k w blk off d) (hblk : blk < w.heap.size) (hsz : d.size < 4611686018427387904),
   Calls P f #[.slice (some ⟨blk, off, none⟩) d.size cap, .func (.func g) #[] cb] w fun e w' => e = .returned (.tuple #[]) ∧ ∃ d' n os, PermIn 0 d.size d d' ∧ SortedIn (Go.Proofs.ltOf cf) 0 d.size d' ∧ w' = Go.Proofs.sortWorldK enc k w blk off n d' os
def KSort0 (P : Program) (f : FuncId) : Prop := ∀ (p : Option Addr) (cap : Nat) (fv : Value) (w : World), Calls P f #[.slice p 0 cap, fv] w fun e w' => e = .returned (.tuple #[]) ∧ w' = w
theorem arr_eq {α : Type} [Inhabited α] (d : Array α) (i : Nat) (h : i < d.size) : d[i]? = some d[i]! := by
 rw [getElem!_pos d i h, Array.getElem?_eq_getElem h]
theorem LCon.sortK {β : Type} {encB : β → List V} {k : Nat} (henc : ∀ b, (encB b).length = k) (hk : 0 < k) (hpure : ∀ b, Refs (fun _ => False) (encB b)) (hone : ∀ b, ∀ z ∈ encB b, oneV [] z = true) {caps : List V} (hcaps : Refs (fun _ => False) caps) (cmpf : β → β → Int) {l l' : List β}
   (hc : ∀ x ∈ l, ∀ y ∈ l, Con P c ([.agg (encB x), .agg (encB y)] ++ caps) (.int .i64 (cmpf x y))) (s1 : ∀ x ∈ l, ¬ cmpf x x < 0) (s2 : ∀ x ∈ l, ∀ y ∈ l, ∀ z ∈ l, cmpf x y < 0 → cmpf y z < 0 → cmpf x z < 0) (s3 : ∀ x ∈ l, ∀ y ∈ l, ∀ z ∈ l, ¬ cmpf x y < 0 → ¬ cmpf y z < 0 → ¬ cmpf x z < 0)
   (hu : ∀ l2 : List β, l2.Perm l → l2.Pairwise (fun x y => ¬ cmpf y x < 0) → l2 = l') (hlen : l.length < 4611686018427387904) (hb : bodyOK P f = true) (eg : ∀ args w, (callFunc c args).run P w = .ok (.enter c args) w) (KS : KSort P f k) (K0 : KSort0 P f) :
   LCon P f [.ar 0 0 l.length, .fn c [] caps] [.arr true k (l.map encB)] (.tup []) [.arr true k (l'.map encB)] := by
 refine ⟨hb, ?_⟩
 intro w Zo β us M hargs
 obtain ⟨lc, rfl⟩ : ∃ lc, β = [lc] := by
   have := M.len
   match β, this with
   | [lc], _ => exact ⟨lc, rfl⟩
 obtain ⟨v0, vs0, rfl, hv0, hr⟩ := hargs
 obtain ⟨v1, vs1, rfl, hv1, rfl⟩ := hr
 obtain ⟨hln, A, rfl, hA⟩ : 0 + l.length ≤ (l.map encB).length ∧ ∃ A, v0 = .slice A l.length (lc.cap - 0) ∧ (0 < lc.cap → A = some ⟨lc.b, 0 * k, none⟩) := hv0
 obtain ⟨us0, cb, rfl, hf0, hcb⟩ := hv1
 have hf0 : us0.toList = [] := hf0
 obtain rfl : us0 = #[] := by cases us0; simp_all
 by_cases hl0 : l = []
 · subst hl0
   have e1 : l' = [] := (hu [] (List.Perm.refl _) List.Pairwise.nil).symm
   subst e1
   refine (K0 A (lc.cap - 0) _ w).mono ?_
   rintro e w' ⟨rfl, rfl⟩
   exact ⟨_, [lc], rfl, Frame.refl _ _, M, ⟨_, _, rfl, ⟨Nat.le_refl _, _, rfl, fun _ => rfl⟩, ⟨_, _, rfl, rfl, rfl⟩⟩, ⟨#[], rfl, rfl⟩, fun b hb => .inl hb⟩
 have hpos : 0 < l.length := List.length_pos_iff.2 hl0
 obtain ⟨k1, k2, k3, k4⟩ := M.ok 0 _ lc rfl rfl
 rw [List.length_map] at k1
 have hcap : lc.cap ≠ 0 := by omega
 rcases k4 with k4 | ⟨us, e, fr, g1, g2, g3, g4, g5⟩
 · exact absurd k4 hcap
 have g1 : w.heap[lc.b]? = some (.cells us e fr) := g1
 have hblk := (Array.getElem?_eq_some_iff.1 g1).1
 obtain rfl := hA (by omega)
 obtain ⟨c0, hc0⟩ : ∃ c0, c0 = cx w (fun b => Zo b ∨ liveAt [.arr true k (l.map encB)] [lc] b) [] [] := ⟨_, rfl⟩
 have hz0 : ∀ b, (cx w Zo [.arr true k (l.map encB)] [lc]).fz b → c0.fz b := fun b hf => by
   subst hc0
   refine ⟨hf.1, ?_⟩
   rintro (hz | ⟨o, ob, l1, h1, _⟩)
   · exact hf.2 hz
   · simp at h1
 have htr : ∀ xs us, Refs (fun _ => False) xs → RVs (cx w Zo [.arr true k (l.map encB)] [lc]) xs us → RVs c0 xs us := fun xs us hp h => by
   have := RVs.tr (c' := c0) (ρ := fun o => o) (ok := fun _ => False) ⟨fun b hf => ⟨hz0 b hf, by subst hc0; rfl⟩, fun _ h => h.elim⟩ xs us hp h
   rwa [rens_id] at this
 obtain ⟨L, hL1, hL2⟩ := els (c0 := c0) (l := l) (by subst hc0; rfl) (fun x us h => htr _ us (hpure x) h) l 0 (fun x hx => hx) g4
 have hLl : L.length = l.length := by have := congrArg List.length hL1; rwa [List.length_map] at this
 have hrl : ∀ p : El encB l c0, p.row.length = k := fun p => by rw [p.rv.length, henc]
 haveI : Inhabited (El encB l c0) := ⟨L[0]'(by omega)⟩
 obtain ⟨d, hd⟩ : ∃ d : Array (El encB l c0), d = L.toArray := ⟨_, rfl⟩
 have hds : d.size = l.length := by rw [hd]; simpa using hLl
 have hH : HoldsK (fun p : El encB l c0 => p.row) k w lc.b (0 * k) d := by
   intro j hj
   have hj : j < d.size * k := by rwa [size_flatK] at hj
   have hi : j / k < d.size := (Nat.div_lt_iff_lt_mul hk).2 hj
   have hm : j % k < k := Nat.mod_lt _ hk
   obtain ⟨p, hp⟩ : ∃ p, d[j / k]? = some p := ⟨_, Array.getElem?_eq_getElem hi⟩
   have hpe : d[j / k]! = p := by have := arr_eq d _ hi; rw [hp] at this; injection this with this; exact this.symm
   obtain ⟨u, hu2⟩ : ∃ u, p.row[j % k]? = some u := ⟨_, List.getElem?_eq_getElem (by rw [hrl]; exact hm)⟩
   have hcell := hL2 (j / k) p (by rw [hd] at hp; simpa using hp) (j % k) u hu2
   have hjj : 0 + j / k * k + j % k = j := by rw [Nat.zero_add, Nat.mul_comm]; exact Nat.div_add_mod j k
   rw [hjj] at hcell
   have hcell : w.cell? ⟨lc.b, j, none⟩ = some u := by subst hc0; exact hcell
   have hju : j < us.size := by
     rw [cell_at g1] at hcell
     exact (Array.getElem?_eq_some_iff.1 hcell).1
   refine ⟨?_, ?_⟩
   · rw [Nat.zero_mul, Nat.zero_add, hcell]
     show some u = some (flatK _ k d)[j]!
     rw [get_flatK _ k d j hj, hpe]
     congr 1
     rw [getElem!_def, hu2]
   · rw [Nat.zero_mul, Nat.zero_add]
     have := g3 j (by omega)
     simp only [World.frozen?, g1]
     simp only [Bool.and_eq_false_iff, decide_eq_false_iff_not]
     omega
 have h1 : ∀ p : El encB l c0, ∀ v ∈ p.row, v.oneCell' = true := fun p v hv => by
   have M0 : Mem w (fun b => Zo b ∨ liveAt [.arr true k (l.map encB)] [lc] b) [] [] := ⟨rfl, fun o ob l h => by simp at h, fun o o' ob ob' l l' b h => by simp at h, fun b ⟨o, ob, l, h, _⟩ => by simp at h, fun b hz => hz.elim (M.zlt b) fun h => M.live_lt h⟩
   have hrv := p.rv
   subst hc0
   exact one_list M0 (Agree.refl _) (hone p.b) hrv v hv
 have hO : SWO (Go.Proofs.ltOf fun p q : El encB l c0 => cmpf p.b q.b) := by
   refine ⟨fun x => ?_, fun x y z h1 h2 => ?_, fun x y z h1 h2 => ?_⟩ <;> simp only [Go.Proofs.ltOf, decide_eq_true_eq, decide_eq_false_iff_not] at *
   · exact s1 x.b x.mem
   · exact s2 _ x.mem _ y.mem _ z.mem h1 h2
   · exact s3 _ x.mem _ y.mem _ z.mem h1 h2
 have hcmp : Go.Proofs.CmpLays P c cb (fun p : El encB l c0 => p.row) k (fun p q => cmpf p.b q.b) lc.b (0 * k) d.size w := by
   intro m os dk hdk x y
   have hcon := hc x.b x.mem y.b y.mem
   obtain ⟨_, hF⟩ := sorted_world (e1 := id) (n := m) (D := flatK (fun p : El encB l c0 => p.row) k dk) (os := os) g1
   have hW : Go.Proofs.sortWorldK (fun p : El encB l c0 => p.row) k w lc.b (0 * k) m dk os = Go.Sort.grow (putRow id (Go.Sort.ahead w m) lc.b 0 (flatK (fun p : El encB l c0 => p.row) k dk)) os := by unfold Go.Proofs.sortWorldK putRowK; rw [Nat.zero_mul]
   rw [hW]
   generalize Go.Sort.grow (putRow id (Go.Sort.ahead w m) lc.b 0 (flatK (fun p : El encB l c0 => p.row) k dk)) os = W at hF
   have htr2 : ∀ xs us, Refs (fun _ => False) xs → RVs c0 xs us → RVs (cx W (fun b => Zo b ∨ liveAt [.arr true k (l.map encB)] [lc] b) [] []) xs us := fun xs us hp h => by
     have := RVs.tr (c' := cx W (fun b => Zo b ∨ liveAt [.arr true k (l.map encB)] [lc] b) [] []) (ρ := fun o => o) (ok := fun _ => False) ⟨fun b hf => by
       subst hc0
       refine ⟨⟨Nat.lt_of_lt_of_le hf.1 hF.size, hf.2⟩, hF.block b hf.1 fun hb => hf.2 (.inl (.inr (live_arr.2 ⟨hcap, hb⟩)))⟩, fun _ h => h.elim⟩ xs us hp h
     rwa [rens_id] at this
   have hcb2 := htr2 _ _ hcaps (htr _ _ hcaps hcb)
   have hx := htr2 _ _ (hpure x.b) x.rv
   have hy := htr2 _ _ (hpure y.b) y.rv
   have hz : ∀ b, (Zo b ∨ liveAt [.arr true k (l.map encB)] [lc] b) → b < W.heap.size := fun b hz => Nat.lt_of_lt_of_le (Or.elim hz (M.zlt b) fun h => M.live_lt h) hF.size
   have h := hcon.c W (fun b => Zo b ∨ liveAt [.arr true k (l.map encB)] [lc] b) ([.agg x.row.toArray, .agg y.row.toArray] ++ cb.toList) hz ⟨_, _, rfl, ⟨_, rfl, hx⟩, ⟨_, _, rfl, ⟨_, rfl, hy⟩, hcb2⟩⟩
   have harr : ([Value.agg x.row.toArray, Value.agg y.row.toArray] ++ cb.toList).toArray = #[.agg x.row.toArray, .agg y.row.toArray] ++ cb := by simp
   rw [harr] at h
   refine h.mono ?_
   rintro e w' ⟨v, β, rfl, G, _, hv, _⟩
   have hv : v = .int .i64 (cmpf x.b y.b) := hv
   subst hv
   obtain ⟨q, os', hw⟩ := grow_of G
   exact ⟨rfl, q, os', hw⟩
 have hcall := KS (fun p : El encB l c0 => p.row) hrl h1 (fun p q => cmpf p.b q.b) hO c cb lc.b (0 * k) (lc.cap - 0) d w eg hcmp hH hblk (by rw [hds]; exact hlen)
 rw [hds] at hcall
 refine hcall.mono ?_
 rintro e w' ⟨rfl, d', n, os, hp, hs, rfl⟩
 obtain ⟨p1, _, p3⟩ := hp
 have q1 : d'.extract 0 l.length = d' := by rw [← hds, ← p1]; simp
 have q2 : d.extract 0 l.length = d := by rw [← hds]; simp
 rw [q1, q2] at p3
 have e1 : d'.toList.map (·.b) = l' := by
   refine hu _ ?_ ?_
   · have := p3.map (·.b)
     rwa [hd, List.toList_toArray, hL1] at this
   · rw [List.pairwise_iff_getElem]
     intro i j hi hj hij
     have hi2 : i < d'.size := by simpa using hi
     have hj2 : j < d'.size := by simpa using hj
     have := hs i j (Nat.zero_le _) hij (by rw [← hds, ← p1]; exact hj2)
     simp only [Go.Proofs.ltOf, decide_eq_false_iff_not] at this
     rw [getElem!_pos d' i hi2, getElem!_pos d' j hj2] at this
     simpa using this
 have hrows : d'.toList.map (fun p => encB p.b) = l'.map encB := by rw [← e1, List.map_map]; rfl
 obtain ⟨r1, r2⟩ := sort_get henc d' hk
 rw [hrows] at r1
 obtain ⟨VV, hVV⟩ : ∃ VV, VV = (d'.toList.map (·.row)).flatten := ⟨_, rfl⟩
 rw [← hVV] at r1 r2
 rw [hc0] at r1
 have hW : Go.Proofs.sortWorldK (fun p : El encB l c0 => p.row) k w lc.b (0 * k) n d' os = Go.Sort.grow (putRow id (Go.Sort.ahead w n) lc.b 0 (flatK (fun p : El encB l c0 => p.row) k d')) os := by unfold Go.Proofs.sortWorldK putRowK; rw [Nat.zero_mul]
 rw [hW]
 have hll : l'.length = l.length := by rw [← e1, List.length_map, Array.length_toList, p1, hds]
 have hpp : ∀ L : List β, Refs (fun _ => False) (L.map encB).flatten := fun L => by
   induction L with
   | nil => trivial
   | cons b L ih => rw [List.map_cons, List.flatten_cons]; exact refs_app (hpure b) ih
 obtain ⟨m1, m2, m3, m4⟩ := sorted_mem (n := n) (os := os) (e1 := id) (ys := l'.map encB) (D := flatK (fun p : El encB l c0 => p.row) k d') M g1 g2 hcap (by rw [List.length_map, List.length_map, hll]) (fun y hy => by obtain ⟨b, _, rfl⟩ := List.mem_map.1 hy; exact henc b) (by rw [size_flatK, p1, hds, List.length_map]) (hpp l') r1 r2
 exact ⟨_, [lc], rfl, m1, m2, m3, ⟨#[], rfl, rfl⟩, m4⟩
def KSortI (P : Program) (f : FuncId) : Prop := ∀ (blk off cap : Nat) (zs : List Int) (w : World), Holds (Value.int .i64) w blk off zs.toArray → blk < w.heap.size → zs.length < 4611686018427387904 →
   Calls P f #[.slice (some ⟨blk, off, none⟩) zs.length cap] w fun e w' => e = .returned (.tuple #[]) ∧ ∃ n os, w' = Go.Sort.grow (putRow (Value.int .i64) (Go.Sort.ahead w n) blk off (zs.mergeSort fun x y => decide (x ≤ y)).toArray) os
def KSortI0 (P : Program) (f : FuncId) : Prop := ∀ (p : Option Addr) (cap : Nat) (w : World), Calls P f #[.slice p 0 cap] w fun e w' => e = .returned (.tuple #[]) ∧ w' = w
end
end Go.Pm
end
end

section
namespace Go.Proofs.YtdldgbkdcpdbeaaGreat
open Go.Pm
def laySF95_ren : Go.Shelf.Ren := ⟨fun | 6 => 95 | 15 => 133 | 14 => 132 | 28 => 169 | 29 => 170 | 20 => 161 | 21 => 162 | 22 => 163 | 23 => 164 | 24 => 165 | 25 => 166 | 26 => 167 | 27 => 168 | 46 => 185 | 47 => 186 | 48 => 187 | 49 => 188 | 50 => 189 | 57 => 193 | n => n, fun | 22 => 27 | 24 => 92 | 25 => 126 | 3 => 3 | 39 => 150 | 0 => 0 | 53 => 173 | 55 => 175 | 4 => 4 | 46 => 167 | 45 => 166 | 50 => 102 | 5 => 5 | 9 => 9 | 66 => 184 | 70 => 188 | 76 => 191 | 77 => 192 | n => n, fun | n => n⟩
theorem laySF95 : Go.Proofs.SlLaysF0.n6 Tryz.prog laySF95_ren := {
 mixed := by kernel_rfl
 f6 := ⟨Tryz.f95.name, by decide, Tryz.func95.trans (congrArg some (by kernel_rfl))⟩
 f14 := ⟨Tryz.f132.name, by decide, Tryz.func132.trans (congrArg some (by kernel_rfl))⟩
 f15 := Tryz.func133.trans (congrArg some (by kernel_rfl))
 f20 := ⟨Tryz.f161.name, by decide, Tryz.func161.trans (congrArg some (by kernel_rfl))⟩
 f21 := ⟨Tryz.f162.name, by decide, Tryz.func162.trans (congrArg some (by kernel_rfl))⟩
 f22 := ⟨Tryz.f163.name, by decide, Tryz.func163.trans (congrArg some (by kernel_rfl))⟩
 f23 := ⟨Tryz.f164.name, by decide, Tryz.func164.trans (congrArg some (by kernel_rfl))⟩
 f24 := ⟨Tryz.f165.name, by decide, Tryz.func165.trans (congrArg some (by kernel_rfl))⟩
 f25 := ⟨Tryz.f166.name, by decide, Tryz.func166.trans (congrArg some (by kernel_rfl))⟩
 f26 := ⟨Tryz.f167.name, by decide, Tryz.func167.trans (congrArg some (by kernel_rfl))⟩
 f27 := ⟨Tryz.f168.name, by decide, Tryz.func168.trans (congrArg some (by kernel_rfl))⟩
 f28 := Tryz.func169.trans (congrArg some (by kernel_rfl))
 f29 := Tryz.func170.trans (congrArg some (by kernel_rfl))
 f46 := ⟨Tryz.f185.name, by decide, Tryz.func185.trans (congrArg some (by kernel_rfl))⟩
 f47 := Tryz.func186.trans (congrArg some (by kernel_rfl))
 f48 := Tryz.func187.trans (congrArg some (by kernel_rfl))
 f49 := ⟨Tryz.f188.name, by decide, Tryz.func188.trans (congrArg some (by kernel_rfl))⟩
 f50 := ⟨Tryz.f189.name, by decide, Tryz.func189.trans (congrArg some (by kernel_rfl))⟩
 f57 := ⟨Tryz.f193.name, by decide, Tryz.func193.trans (congrArg some (by kernel_rfl))⟩
 t0 := Tryz.underlying0
 a0 := Tryz.isAgg0
 z0 := Tryz.sizeOf0
 v0 := Tryz.zeroValue0
 t3 := Tryz.underlying3
 a3 := Tryz.isAgg3
 z3 := Tryz.sizeOf3
 v3 := Tryz.zeroValue3
 t4 := Tryz.underlying4
 a4 := Tryz.isAgg4
 z4 := Tryz.sizeOf4
 v4 := Tryz.zeroValue4
 t5 := Tryz.underlying5
 a5 := Tryz.isAgg5
 z5 := Tryz.sizeOf5
 v5 := Tryz.zeroValue5
 t9 := Tryz.underlying9
 a9 := Tryz.isAgg9
 z9 := Tryz.sizeOf9
 v9 := Tryz.zeroValue9
 t22 := Tryz.underlying27
 a22 := Tryz.isAgg27
 z22 := Tryz.sizeOf27
 v22 := Tryz.zeroValue27
 t25 := Tryz.underlying126
 a25 := Tryz.isAgg126
 z25 := Tryz.sizeOf126
 v25 := Tryz.zeroValue126
 t39 := Tryz.underlying150
 a39 := Tryz.isAgg150
 z39 := Tryz.sizeOf150
 v39 := Tryz.zeroValue150
 t45 := Tryz.underlying166
 a45 := Tryz.isAgg166
 z45 := Tryz.sizeOf166
 v45 := Tryz.zeroValue166
 t46 := Tryz.underlying167
 a46 := Tryz.isAgg167
 z46 := Tryz.sizeOf167
 v46 := Tryz.zeroValue167
 t50 := Tryz.underlying102
 a50 := Tryz.isAgg102
 z50 := Tryz.sizeOf102
 v50 := Tryz.zeroValue102
 t53 := Tryz.underlying173
 a53 := Tryz.isAgg173
 z53 := Tryz.sizeOf173
 v53 := Tryz.zeroValue173
 t55 := Tryz.underlying175
 a55 := Tryz.isAgg175
 z55 := Tryz.sizeOf175
 v55 := Tryz.zeroValue175
 t66 := Tryz.underlying184
 a66 := Tryz.isAgg184
 z66 := Tryz.sizeOf184
 v66 := Tryz.zeroValue184
 t70 := Tryz.underlying188
 a70 := Tryz.isAgg188
 z70 := Tryz.sizeOf188
 v70 := Tryz.zeroValue188
 t76 := Tryz.underlying191
 a76 := Tryz.isAgg191
 z76 := Tryz.sizeOf191
 v76 := Tryz.zeroValue191
 t77 := Tryz.underlying192
 a77 := Tryz.isAgg192
 z77 := Tryz.sizeOf192
 v77 := Tryz.zeroValue192 }
def layS_ren : Go.Shelf.Ren := ⟨fun | 5 => 175 | 8 => 133 | 7 => 191 | 19 => 169 | 20 => 170 | 10 => 195 | 11 => 196 | 12 => 197 | 13 => 198 | 14 => 199 | 15 => 200 | 16 => 201 | 17 => 202 | 18 => 203 | 30 => 205 | 31 => 186 | 32 => 187 | 33 => 206 | 34 => 207 | 35 => 134 | 40 => 208 | n => n, fun | 23 => 46 | 25 => 2 | 3 => 3 | 32 => 150 | 22 => 46 | 0 => 0 | 44 => 173 | 46 => 175 | 4 => 4 | 36 => 167 | 35 => 166 | 41 => 102 | 5 => 5 | 9 => 9 | 53 => 184 | 57 => 188 | 63 => 191 | 64 => 192 | n => n, fun | n => n⟩
section
variable {P : Program} [Is P]
theorem k_sortEvent0 : KSort0 P 95 := Is.on (fun P => KSort0 P 95) fun p cap fv w => AnyF.slices_SortFunc_none laySF95 p cap fv w
theorem k_sortEvent : KSort P 95 9 := Is.on (fun P => KSort P 95 9) fun enc hk h1 cf hO g cb blk off cap d w eg hcmp hH hblk hsz => AnyQ.slices_SortFunc laySF95 9 Tryz.isAgg92 Tryz.sizeOf92 enc hk h1 cf hO g cb blk off cap d w eg hcmp hH hblk hsz
end
end Go.Proofs.YtdldgbkdcpdbeaaGreat
end

section
namespace Go.Proofs.YtdldgbkdcpdbeaaGreat
open Go.Pm
def lessI (l : List Int) (n : Int) : Nat := (l.takeWhile fun y => decide (y < n)).length
def setI (l : List Int) (n : Int) : List Int := if l[lessI l n]? = some n then l else l.take (lessI l n) ++ n :: l.drop (lessI l n)
theorem lessI_le (l : List Int) (n : Int) : lessI l n ≤ l.length := Gm.takeWhile_length_le _ l
theorem setI_len (l : List Int) (n : Int) : (setI l n).length ≤ l.length + 1 := by
 unfold setI
 split
 · omega
 · have := lessI_le l n
   simp only [List.length_append, List.length_cons, List.length_take, List.length_drop]; omega
theorem lessI_at {l : List Int} {n : Int} {i : Nat} (hr : lessI l n = i + ((l.drop i).takeWhile fun y => decide (y < n)).length) (hi : i < l.length) {y : Int} (hy : l[i]? = some y) :
   (y < n ∧ lessI l n = (i + 1) + ((l.drop (i + 1)).takeWhile fun y => decide (y < n)).length) ∨ (¬ y < n ∧ lessI l n = i) := by
 have hd : l.drop i = y :: l.drop (i + 1) := by
   rw [List.drop_eq_getElem_cons hi]
   rw [List.getElem?_eq_getElem hi] at hy
   injection hy with hy
   rw [hy]
 rw [hd, List.takeWhile_cons] at hr
 by_cases h : y < n
 · rw [if_pos (by simpa using h), List.length_cons] at hr
   exact .inl ⟨h, by omega⟩
 · rw [if_neg (by simpa using h), List.length_nil] at hr
   exact .inr ⟨h, by omega⟩
section
variable {P : Program} [Is P]
theorem c_l03Set (l : List Int) (n : Int) (hl : l.length * 8 < 2 ^ 46) : Con P 86 [.sl 1 (l.map encI), .int .i64 n] (.sl 1 ((setI l n).map encI)) := by
 refine Con.of (n := 48) (rs := [.tmp 4]) (Is.fn Tryz.func86) rfl (Is.call Tryz.call86) Tryz.results86 Tryz.ntmps86 (by simp only [method_specs_simp]) ?_
 simp only [method_specs_simp, seval, ← List.map_take, ← List.map_drop, List.take_length]
 refine SW.while (A := Nat) (fun i => ⟨pad 48 [.sl 1 (l.map encI), .int .i64 n, .junk, .junk, .junk, .int .i64 i], [], []⟩) (fun i => l.length - i) (fun i => i ≤ l.length ∧ lessI l n = i + ((l.drop i).takeWhile fun y => decide (y < n)).length) 0 [] ⟨Nat.zero_le _, by simp [lessI]⟩ ?_ ?_
 · simp only [mvcgen_simp, method_specs_simp, seval, ← List.map_take, ← List.map_drop, List.take_length]
 · rintro i ⟨hi, hr⟩
   have w1 : IntKind.i64.wrap ((i : Int) + 1) = ((i + 1 : Nat) : Int) := wadd1 i (by omega)
   have hlt : (l.take i).length = i := by rw [List.length_take]; omega
   have hld : (l.drop i).length = l.length - i := List.length_drop ..
   have hall : (l.take i).map encI ++ [[V.int .i64 n]] ++ (l.drop i).map encI = (l.take i ++ n :: l.drop i).map encI := by rw [List.map_append, List.map_cons, List.append_assoc]; rfl
   have hlen : i + 1 + (l.length - i) = (l.take i ++ n :: l.drop i).length := by rw [List.length_append, List.length_cons, hlt, hld]; omega
   refine CW.sound ?_
   simp only [method_specs_simp, seval, ← List.map_take, ← List.map_drop, List.take_length]
   refine gB_split (fun h => ?_) (fun h => ?_)
   · simp only [decide_eq_true_eq, Int.ofNat_lt] at h
     obtain ⟨y, hy⟩ : ∃ y, l[i]? = some y := ⟨_, List.getElem?_eq_getElem h⟩
     simp only [method_specs_simp, seval, ← List.map_take, ← List.map_drop, List.take_length, hy, encI]
     refine ⟨by omega, by omega, ?_⟩
     rcases lessI_at hr h hy with ⟨h1, h2⟩ | ⟨h1, h2⟩
     · have e1 : decide (y < n) = true := by simpa using h1
       simp only [method_specs_simp, seval, ← List.map_take, ← List.map_drop, List.take_length, e1]
       refine Again.mk (i + 1) [] ⟨h, h2⟩ (Nat.sub_lt_sub_left h (Nat.lt_succ_self _)) ?_
       simp only [mvcgen_simp, method_specs_simp, seval, ← List.map_take, ← List.map_drop, List.take_length, w1]
     · have e1 : decide (y < n) = false := by simpa using h1
       have e2 : decide ((i : Int) < (l.length : Int)) = true := by simpa using h
       simp only [method_specs_simp, seval, ← List.map_take, ← List.map_drop, List.take_length, e1, e2, hy, encI]
       refine ⟨by omega, by omega, ?_⟩
       refine gB_split (fun h3 => ?_) (fun h3 => ?_)
       · have h4 : setI l n = l := by unfold setI; rw [h2, hy, eq_of_beq h3, if_pos rfl]
         rw [h4]
       · have h5 : y ≠ n := fun e => by subst e; simp at h3
         have h4 : setI l n = l.take i ++ n :: l.drop i := by unfold setI; rw [h2, hy, if_neg (fun e => h5 (Option.some.inj e))]
         simp only [method_specs_simp, seval, ← List.map_take, ← List.map_drop, List.take_length, hlt, hld]
         repeat (refine ⟨by omega, ?_⟩)
         rw [hall, h4, hlen, List.take_of_length_le (by rw [List.length_map]; exact Nat.le_refl _)]
         simp only [method_specs_simp, seval, ← List.map_take, ← List.map_drop, List.take_length]
   · have e2 : decide ((i : Int) < (l.length : Int)) = false := by simpa using h
     have hi2 : i = l.length := by simp only [decide_eq_false_iff_not, Bool.not_true, Int.ofNat_lt] at h; omega
     have h2 : lessI l n = i := by rw [hr, hi2, List.drop_length]; simp
     have h4 : setI l n = l.take i ++ n :: l.drop i := by unfold setI; rw [h2, hi2, List.getElem?_eq_none (Nat.le_refl _), if_neg (by simp)]
     simp only [method_specs_simp, seval, ← List.map_take, ← List.map_drop, List.take_length, e2, hlt, hld]
     repeat (refine ⟨by omega, ?_⟩)
     rw [hall, h4, hlen, List.take_of_length_le (by rw [List.length_map]; exact Nat.le_refl _)]
     simp only [method_specs_simp, seval, ← List.map_take, ← List.map_drop, List.take_length]
end
def ddF : Option Int → List Int → List Int
 | _, [] => []
 | p, x :: l => if p = some x then ddF p l else x :: ddF (some x) l
def dd (l : List Int) : List Int := ddF none l
def sqz (W l : List Int) : List Int := W ++ l.drop W.length
def padZ (l : List Int) (n : Nat) : List Int := l ++ List.replicate (n - l.length) 0
section
variable {P : Program} [Is P]
def srtI (l : List Int) : List Int := l.mergeSort fun x y => decide (x ≤ y)
end
end Go.Proofs.YtdldgbkdcpdbeaaGreat
end

section
namespace Go.Proofs.YtdldgbkdcpdbeaaGreat
open Go.Pm
def LtI (x y : Int) : Prop := x < y
def Rise (l : List Int) : Prop := l.Pairwise LtI
theorem Rise.nodup {l : List Int} (h : Rise l) : l.Nodup := List.Pairwise.imp (fun {x y} (h : x < y) e => by subst e; omega) h
theorem lessI_split (l : List Int) (n : Int) (h : Rise l) : (∀ x ∈ l.take (lessI l n), x < n) ∧ ∀ x ∈ l.drop (lessI l n), n ≤ x := by
 induction l with
 | nil => simp [lessI]
 | cons y l ih =>
   have h1 := List.pairwise_cons.1 h
   obtain ⟨i1, i2⟩ := ih h1.2
   unfold lessI at i1 i2 ⊢
   rw [List.takeWhile_cons]
   by_cases hy : y < n
   · rw [if_pos (by simpa using hy)]
     simp only [List.length_cons, List.take_succ_cons, List.drop_succ_cons, List.mem_cons]
     exact ⟨fun x hx => hx.elim (fun e => e ▸ hy) (i1 x), i2⟩
   · rw [if_neg (by simpa using hy)]
     simp only [List.length_nil, List.take_zero, List.drop_zero, List.mem_cons, List.not_mem_nil, false_implies, implies_true, true_and]
     intro x hx
     rcases hx with rfl | hx
     · omega
     · have : y < x := h1.1 x hx
       omega
theorem setI_mem {l : List Int} {n : Int} (h : Rise l) {x : Int} : x ∈ setI l n ↔ x = n ∨ x ∈ l := by
 unfold setI
 split
 · rename_i hn
   exact ⟨.inr, fun hx => hx.elim (fun e => e ▸ List.mem_of_getElem? hn) id⟩
 · conv => rhs; rw [← List.take_append_drop (lessI l n) l]
   simp only [List.mem_append, List.mem_cons]
   constructor
   · rintro (h | rfl | h)
     · exact .inr (.inl h)
     · exact .inl rfl
     · exact .inr (.inr h)
   · rintro (rfl | h | h)
     · exact .inr (.inl rfl)
     · exact .inl h
     · exact .inr (.inr h)
theorem setI_rise {l : List Int} {n : Int} (h : Rise l) : Rise (setI l n) := by
 have hs := lessI_split l n h
 unfold setI
 split
 · exact h
 · rename_i hne
   have h1 : Rise (l.take (lessI l n)) := h.sublist (List.take_sublist _ _)
   have h2 : Rise (l.drop (lessI l n)) := h.sublist (List.drop_sublist _ _)
   have h3 : ∀ x ∈ l.drop (lessI l n), n < x := by
     intro x hx
     have hle := hs.2 x hx
     rcases Int.lt_or_eq_of_le hle with h4 | h4
     · exact h4
     · exfalso
       subst h4
       obtain ⟨j, hj⟩ := List.mem_iff_getElem?.1 hx
       cases j with
       | zero => rw [List.getElem?_drop] at hj; exact hne (by simpa using hj)
       | succ j =>
         obtain ⟨y, hy⟩ : ∃ y, (l.drop (lessI l n))[0]? = some y := by
           cases hd : l.drop (lessI l n) with
           | nil => rw [hd] at hj; simp at hj
           | cons y t => exact ⟨y, rfl⟩
         have hlt : y < n := Gm.pw_get h2 (Nat.zero_lt_succ j) hy hj
         have := hs.2 y (List.mem_of_getElem? hy)
         omega
   refine List.pairwise_append.2 ⟨h1, List.pairwise_cons.2 ⟨h3, h2⟩, fun x hx y hy => ?_⟩
   have hx1 := hs.1 x hx
   rcases List.mem_cons.1 hy with rfl | hy
   · exact hx1
   · have := hs.2 y hy
     show x < y
     omega
end Go.Proofs.YtdldgbkdcpdbeaaGreat
end

section
namespace Go.Proofs.YtdldgbkdcpdbeaaGreat
open Go.Pm
open Go.Gm (Ev Gr)
@[mvcgen_simp, method_specs_simp] theorem mpI_refs1 {β : Type} {ok : Nat → Prop} {kd : IntKind} {f : β → V} : ∀ {l : List (Int × β)}, Refs ok (mpI kd f l).1 = True
 | [] => rfl
 | p :: l => by
   have ih := mpI_refs1 (ok := ok) (kd := kd) (f := f) (l := l)
   simp only [mpI, List.map_cons] at ih ⊢
   exact propext ⟨fun _ => trivial, fun _ => ⟨trivial, by rw [ih]; trivial⟩⟩
@[mvcgen_simp, method_specs_simp] theorem mpI_rens1 {β : Type} {ρ : Nat → Nat} {kd : IntKind} {f : β → V} : ∀ {l : List (Int × β)}, rens ρ (mpI kd f l).1 = (mpI kd f l).1
 | [] => rfl
 | p :: l => by
   have ih := mpI_rens1 (ρ := ρ) (kd := kd) (f := f) (l := l)
   simp only [mpI, List.map_cons, rens, V.ren] at ih ⊢
   rw [ih]
theorem mpI_refs2 {β : Type} {ok : Nat → Prop} {kd : IntKind} {f : β → V} (hf : ∀ b, Ref ok (f b)) : ∀ {l : List (Int × β)}, Refs ok (mpI kd f l).2 = True
 | [] => rfl
 | p :: l => by
   have ih := mpI_refs2 (kd := kd) hf (l := l)
   simp only [mpI, List.map_cons] at ih ⊢
   exact propext ⟨fun _ => trivial, fun _ => ⟨hf _, by rw [ih]; trivial⟩⟩
theorem mpI_rens2 {β : Type} {ρ : Nat → Nat} {kd : IntKind} {f : β → V} (hf : ∀ b, (f b).ren ρ = f b) : ∀ {l : List (Int × β)}, rens ρ (mpI kd f l).2 = (mpI kd f l).2
 | [] => rfl
 | p :: l => by
   have ih := mpI_rens2 (ρ := ρ) (kd := kd) hf (l := l)
   simp only [mpI, List.map_cons, rens] at ih ⊢
   rw [ih, hf]
@[mvcgen_simp, method_specs_simp] theorem mpB_refs {ok : Nat → Prop} {kd : IntKind} {l : List (Int × Bool)} : Refs ok (mpI kd V.bool l).2 = True := mpI_refs2 (f := V.bool) fun _ => trivial
@[mvcgen_simp, method_specs_simp] theorem mpB_rens {ρ : Nat → Nat} {kd : IntKind} {l : List (Int × Bool)} : rens ρ (mpI kd V.bool l).2 = (mpI kd V.bool l).2 := mpI_rens2 fun _ => rfl
@[mvcgen_simp, method_specs_simp] theorem mpN_refs {ok : Nat → Prop} {kd k : IntKind} {l : List (Int × Int)} : Refs ok (mpI kd (V.int k) l).2 = True := mpI_refs2 (f := V.int k) fun _ => trivial
@[mvcgen_simp, method_specs_simp] theorem mpN_rens {ρ : Nat → Nat} {kd k : IntKind} {l : List (Int × Int)} : rens ρ (mpI kd (V.int k) l).2 = (mpI kd (V.int k) l).2 := mpI_rens2 fun _ => rfl
structure GG (g : Gr) : Prop where
 ok : GrOK g
 rt : Gm.grRight g = true
theorem GG.ain {g : Gr} (h : GG g) : ∀ e ∈ g.events, Gm.allIn g.events e = true := fun e he => by
 have hr := h.rt
 simp only [Gm.grRight, Bool.and_eq_true, List.all_eq_true] at hr
 exact (hr.2.2.2.1 e he).1
theorem GG.pos {g : Gr} (h : GG g) : ∀ x ∈ Gm.depthsE g.events, 1 ≤ x := fun x hx => by
 have h0 := (Gm.depths_ok g.events).nn x hx
 have hr := h.rt
 simp only [Gm.grRight, Bool.and_eq_true, List.all_eq_true] at hr
 have := hr.2.2.2.2.2
 rw [Gm.allPos, List.all_eq_true] at this
 have := this x hx
 have hne : x ≠ 0 := by simpa using this
 omega
theorem GG.row {g : Gr} (h : GG g) : (g.events.length : Int) ≤ 60 ∧ Gm.rowFrom g.room none g.events = true := by
 have hr := h.rt
 simp only [Gm.grRight, Gm.rowR, Bool.and_eq_true, decide_eq_true_eq] at hr
 exact hr.2.1
theorem GG.n {g : Gr} (h : GG g) : g.events.length ≤ 60 := by have := h.row.1; omega
theorem GG.srt {g : Gr} (h : GG g) : Gm.Srt g.events := (Gm.rowFrom_srt h.row.2).1
theorem GG.ev {g : Gr} (h : GG g) : ∀ e ∈ g.events, Gm.evRight e = true := fun e he => ((Gm.rowFrom_srt h.row.2).2 e he).1
theorem GG.four {g : Gr} (h : GG g) : ∀ e ∈ g.events, e.prev.length ≤ 4 := fun e he => by
 have := h.ev e he
 simp only [Gm.evRight, Gm.prevR, Bool.and_eq_true, decide_eq_true_eq] at this
 omega
theorem GG.hx {g : Gr} (h : GG g) : g.events.length * 96 ≤ 2 ^ 47 := h.ok.1.1
def prevsE (evs : List Ev) (id : Int) : List Int := ((atE evs id).getD zE).prev
def aheadGo (evs : List Ev) (a : Int) : Nat → List Int → List Int → Bool
 | 0, _, _ => false
 | _ + 1, _, [] => false
 | n + 1, met, id :: todo => if id == a then true else if met.contains id then aheadGo evs a n met todo else aheadGo evs a n (met ++ [id]) (todo ++ prevsE evs id)
theorem aheadGo_nil (evs : List Ev) (a : Int) (n : Nat) (met : List Int) : aheadGo evs a n met [] = false := by cases n <;> rfl
def unm (evs : List Ev) (met : List Int) : Nat := evs.countP fun e => !met.contains e.id
theorem unm_put {met : List Int} {id : Int} (hm : met.contains id = false) : ∀ {evs : List Ev}, Gm.hasId evs id = true → unm evs (met ++ [id]) + 1 ≤ unm evs met
 | [], h => by simp [Gm.hasId] at h
 | e :: evs, h => by
   have hle : unm evs (met ++ [id]) ≤ unm evs met := by
     refine List.countP_mono_left fun x _ hx => ?_
     simp only [Bool.not_eq_true', List.contains_eq_mem, List.mem_append, decide_eq_false_iff_not, not_or] at hx ⊢
     exact hx.1
   have he2 : ∀ m : List Int, unm (e :: evs) m = unm evs m + if m.contains e.id then 0 else 1 := fun m => by
     unfold unm
     rw [List.countP_cons]
     cases m.contains e.id <;> rfl
   rw [he2, he2]
   by_cases hi : e.id = id
   · subst hi
     rw [hm]
     have : (met ++ [e.id]).contains e.id = true := by simp
     rw [this]
     simp only [if_true, Bool.false_eq_true, if_false]; omega
   · have h2 : Gm.hasId evs id = true := by
       simp only [Gm.hasId, List.any_cons, Bool.or_eq_true, beq_iff_eq] at h ⊢
       exact h.resolve_left hi
     have ih := unm_put hm h2
     have : (met ++ [id]).contains e.id = met.contains e.id := by simp [List.contains_eq_mem, hi]
     rw [this]; omega
def metL (met : List Int) : List (Int × Bool) := met.map fun k => (k, true)
theorem look_met : ∀ (met : List Int) (k : Int), lookD (metL met) k false = met.contains k
 | [], k => rfl
 | x :: met, k => by
   have ih := look_met met k
   simp only [metL, lookD, List.map_cons, List.find?_cons, List.contains_cons] at ih ⊢
   cases hb : k == x with
   | true => rfl
   | false => simpa using ih
theorem put_met : ∀ (met : List Int) (k : Int), met.contains k = false → putK (metL met) k true = metL (met ++ [k])
 | [], k, _ => rfl
 | x :: met, k, h => by
   rw [List.contains_cons, Bool.or_eq_false_iff] at h
   have ih := put_met met k h.2
   simp only [metL, putK, List.map_cons, List.cons_append] at ih ⊢
   rw [h.1]
   simp only [Bool.false_eq_true, if_false, ih]
theorem prevs_four {g : Gr} (h : GG g) (id : Int) : (prevsE g.events id).length ≤ 4 := by
 unfold prevsE
 cases hh : atE g.events id with
 | none => exact Nat.zero_le _
 | some e => exact h.four e (List.mem_of_find?_eq_some hh)
theorem prevs_in {g : Gr} (h : GG g) (id : Int) : ∀ p ∈ prevsE g.events id, Gm.hasId g.events p = true := fun p hp => by
 unfold prevsE at hp
 cases hh : atE g.events id with
 | none => rw [hh] at hp; cases hp
 | some e =>
   rw [hh] at hp
   have := h.ain e (List.mem_of_find?_eq_some hh)
   simp only [Gm.allIn, List.all_eq_true] at this
   exact this p hp
structure AhI (g : Gr) (a : Int) (R : Bool) (n : Nat) (met q : List Int) (i : Nat) : Prop where
 le : i ≤ q.length
 cap : q.length + 5 * unm g.events met ≤ 5 * g.events.length + 4
 pot : q.length + 5 * unm g.events met ≤ n + i
 all : ∀ p ∈ q, Gm.hasId g.events p = true
 go : aheadGo g.events a n met (q.drop i) = R
def aheadE (g : Gr) (a : Int) (e : Ev) : Bool := aheadGo g.events a (5 * g.events.length + 4) [] e.prev
theorem AhI.start {g : Gr} (h : GG g) {a : Int} {e : Ev} (he : e ∈ g.events) : AhI g a (aheadE g a e) (5 * g.events.length + 4) [] e.prev 0 := by
 have h4 := h.four e he
 have hu : unm g.events [] ≤ g.events.length := List.countP_le_length
 refine ⟨Nat.zero_le _, by omega, by omega, fun p hp => ?_, rfl⟩
 have := h.ain e he
 simp only [Gm.allIn, List.all_eq_true] at this
 exact this p hp
theorem AhI.next {g : Gr} {a : Int} {R : Bool} {n i : Nat} {met q : List Int} (s : AhI g a R n met q i) (hi : i < q.length) : ∃ id k, q[i]? = some id ∧ n = k + 1 ∧ q.drop i = id :: q.drop (i + 1) ∧ Gm.hasId g.events id = true := by
 have hq : q[i]? = some q[i] := List.getElem?_eq_getElem hi
 have hp := s.pot
 exact ⟨q[i], n - 1, hq, by omega, List.drop_eq_getElem_cons hi, s.all _ (List.mem_of_getElem? hq)⟩
theorem AhI.skip {g : Gr} {a : Int} {R : Bool} {k i : Nat} {met q : List Int} {id : Int} (s : AhI g a R (k + 1) met q i) (hi : i < q.length) (hd : q.drop i = id :: q.drop (i + 1)) (ha : (id == a) = false) (hm : met.contains id = true) : AhI g a R k met q (i + 1) := by
 obtain ⟨s1, s2, s3, s4, s5⟩ := s
 rw [hd, aheadGo, ha, hm] at s5
 exact ⟨hi, s2, by omega, s4, s5⟩
theorem AhI.mark {g : Gr} (h : GG g) {a : Int} {R : Bool} {k i : Nat} {met q : List Int} {id : Int} (s : AhI g a R (k + 1) met q i) (hi : i < q.length) (hd : q.drop i = id :: q.drop (i + 1)) (hin : Gm.hasId g.events id = true) (ha : (id == a) = false) (hm : met.contains id = false) : AhI g a R k (met ++ [id]) (q ++ prevsE g.events id) (i + 1) := by
 obtain ⟨s1, s2, s3, s4, s5⟩ := s
 have hu := unm_put hm hin
 have h4 := prevs_four h id
 rw [hd, aheadGo, ha, hm] at s5
 refine ⟨?_, ?_, ?_, ?_, ?_⟩
 · rw [List.length_append]; omega
 · rw [List.length_append]; omega
 · rw [List.length_append]; omega
 · intro p hp
   rcases List.mem_append.1 hp with hp | hp
   · exact s4 p hp
   · exact prevs_in h id p hp
 · show aheadGo g.events a k (met ++ [id]) ((q ++ prevsE g.events id).drop (i + 1)) = R
   rw [List.drop_append_of_le_length (by omega)]
   exact s5
section
variable {P : Program} [Is P]
theorem c_ahead (g : Gr) (a : Int) (e : Ev) (h : GG g) (he : e ∈ g.events) : Con P 125 [.agg (encGr g), .int .i64 a, .agg (encEv e)] (.bool (aheadE g a e)) := by
 have h60 := h.n
 have hx := h.hx
 have h4 := h.four e he
 refine Con.of (n := 46) (rs := [.tmp 6]) (Is.fn Tryz.func125) rfl (Is.call Tryz.call125) Tryz.results125 Tryz.ntmps125 trivial ?_
 simp only [method_specs_simp, seval, encGr, encEv]
 refine clY.new (n_cloneI e.prev (by omega)) (by simp only [method_specs_simp, encGr, encEv]) ?_
 simp only [method_specs_simp, seval, encGr, encEv]
 refine SW.while (A := Nat × List Int × List Int × Nat) (fun s => ⟨pad 46 [.junk, .int .i64 a, .junk, .ptr 0 0, .junk, .junk, .bool false, .map 1, .ar 2 0 s.2.2.1.length, .int .i64 s.2.2.2], [.box true (encGr g), .mp true (mpI .i64 V.bool (metL s.2.1)).1 (mpI .i64 V.bool (metL s.2.1)).2, .arr true 1 (s.2.2.1.map encI)], []⟩) (fun s => s.1) (fun s => AhI g a (aheadE g a e) s.1 s.2.1 s.2.2.1 s.2.2.2) (5 * g.events.length + 4, [], e.prev, 0) [0, 2, 3] (AhI.start h he) ?_ ?_
 · simp only [mvcgen_simp, method_specs_simp, seval, encGr, encEv, metL, mpI]
 · rintro ⟨n, met, q, i⟩ s
   have s1 := s.le
   have s2 := s.cap
   simp only at s s1 s2
   have w1 : IntKind.i64.wrap ((i : Int) + 1) = ((i + 1 : Nat) : Int) := wadd1 i (by omega)
   refine CW.sound ?_
   simp only [method_specs_simp, seval, encGr, encEv]
   refine gB_split (fun hlt => ?_) (fun hlt => ?_)
   · simp only [decide_eq_true_eq, Int.ofNat_lt] at hlt
     obtain ⟨id, k, hq, rfl, hd, hin⟩ := s.next hlt
     simp only [method_specs_simp, seval, encGr, encEv, hq, encI]
     refine ⟨by omega, by omega, ?_⟩
     refine gB_split (fun ha => ?_) (fun ha => ?_)
     · have := s.go
       rw [hd, aheadGo, ha] at this
       exact this
     · simp only [Bool.not_true] at ha
       refine lkY.ints V.bool (metL met) false rfl (by simp only [method_specs_simp]) ?_
       rw [look_met]
       simp only [method_specs_simp, seval, encGr, encEv]
       refine gB_split (fun hm => ?_) (fun hm => ?_)
       · simp only [Bool.not_eq_true'] at hm
         refine muY.ints V.bool (metL met) true false rfl (by simp only [method_specs_simp]) ?_
         rw [put_met met id hm]
         simp only [method_specs_simp, seval, encGr, encEv]
         refine clY.con (c_at g id hx h.srt) (by simp only [method_specs_simp, encGr, encEv]) ?_
         simp only [method_specs_simp, seval, encGr, encEv]
         have h4q := prevs_four h id
         have hap : q.map encI ++ (((atE g.events id).getD zE).prev).map encI = (q ++ prevsE g.events id).map encI := by rw [List.map_append]; rfl
         have hln : q.length + ((atE g.events id).getD zE).prev.length = (q ++ prevsE g.events id).length := by rw [List.length_append]; rfl
         unfold prevsE at h4q
         refine ⟨by omega, by omega, ?_⟩
         refine Again.mk (k, met ++ [id], q ++ prevsE g.events id, i + 1) [0, 1, 4] (s.mark h hlt hd hin ha hm) (Nat.lt_succ_self _) ?_
         simp only [mvcgen_simp, method_specs_simp, seval, encGr, encEv, w1, hap, hln]
       · simp only [Bool.not_true, Bool.not_eq_false'] at hm
         refine Again.mk (k, met, q, i + 1) [0, 1, 2] (s.skip hlt hd ha hm) (Nat.lt_succ_self _) ?_
         simp only [mvcgen_simp, method_specs_simp, seval, encGr, encEv, w1]
   · have hi : i = q.length := by simp only [decide_eq_false_iff_not, Bool.not_true, Int.ofNat_lt] at hlt; omega
     have := s.go
     rw [hi, List.drop_length, aheadGo_nil] at this
     rw [this]
end
end Go.Proofs.YtdldgbkdcpdbeaaGreat
end

section
namespace Go.Proofs.YtdldgbkdcpdbeaaGreat
open Go.Pm
open Go.Gm (Ev Gr)
def encB (b : Bool) : List V := [.bool b]
def mkB (evs : List Ev) (met : List Int) : List Bool := evs.map fun e => met.contains e.id
theorem srt_id {l : List Ev} (hs : Gm.Srt l) {x y : Ev} (hx : x ∈ l) (hy : y ∈ l) (h : x.id = y.id) : x = y := by
 obtain ⟨i, hi⟩ := List.mem_iff_getElem?.1 hx
 obtain ⟨j, hj⟩ := List.mem_iff_getElem?.1 hy
 rcases Nat.lt_trichotomy i j with hl | rfl | hl
 · have : x.id < y.id := Gm.pw_get hs hl hi hj
   omega
 · rw [hi] at hj; injection hj
 · have : y.id < x.id := Gm.pw_get hs hl hj hi
   omega
theorem has_mem {l : List Ev} {e : Ev} (he : e ∈ l) : Gm.hasId l e.id = true := by
 unfold Gm.hasId
 exact List.any_eq_true.2 ⟨e, he, by simp⟩
theorem at_mem {l : List Ev} (hs : Gm.Srt l) {e : Ev} (he : e ∈ l) : atE l e.id = some e := by
 obtain ⟨e', _, h2, h3, h4⟩ := at_pos hs (has_mem he)
 rw [h2, srt_id hs h4 he h3]
section
variable {P : Program} [Is P]
end
end Go.Proofs.YtdldgbkdcpdbeaaGreat
end

section
namespace Go.Proofs.YtdldgbkdcpdbeaaGreat
open Go.Pm
open Go.Gm (Ev Gr)
def entEq (v x : Ent) : Bool := (v.kind == x.kind) && ((v.key == x.key) && (v.id == x.id))
theorem entEq_iff {v x : Ent} : entEq v x = true ↔ v = x := by
 obtain ⟨a, b, c⟩ := v
 obtain ⟨a', b', c'⟩ := x
 simp [entEq]
def orL : List Int → Int
 | [] => 0
 | x :: l => if x ≠ 0 then x else orL l
def firstE (e : Ev) : Bool := (e.kind == 1) || ((e.kind == 3) || ((e.kind == 5) || ((e.kind == 2) && (e.key != e.author))))
section
variable {P : Program} [Is P]
theorem c_indexN (xs : List Ent) (v : Ent) (hx : xs.length < 2 ^ 61) : Con P 131 [.sl 3 (xs.map encEnt), .agg (encEnt v)] (.int .i64 (idxP (entEq v) xs)) := by
 refine Con.of (n := 19) (rs := [.tmp 4]) (Is.fn Tryz.func131) rfl (Is.call Tryz.call131) Tryz.results131 Tryz.ntmps131 trivial ?_
 simp only [method_specs_simp, seval]
 refine SW.while (A := Nat) (fun k => ⟨pad 19 [.sl 3 (xs.map encEnt), .junk, .junk, .ptr 0 0, .int .i64 0, .junk, .sl 3 (xs.map encEnt), .int .i64 xs.length, .int .i64 k], [.box true (encEnt v)], []⟩) (fun k => xs.length - k)
   (fun k => k ≤ xs.length ∧ idxP (entEq v) xs = if (xs.drop k).any (entEq v) then (k : Int) + (((xs.drop k).findIdx (entEq v) : Nat) : Int) else -1) 0 [0] ⟨Nat.zero_le _, by simp [idxP]⟩ ?_ ?_
 · simp only [mvcgen_simp, method_specs_simp, seval, encEnt]
 · rintro k ⟨hk, hr⟩
   rw [hr]
   have w1 : IntKind.i64.wrap ((k : Int) + 1) = ((k + 1 : Nat) : Int) := wadd1 k (by omega)
   refine CW.sound ?_
   simp only [method_specs_simp, seval, encEnt]
   refine gB_split (fun h => ?_) (fun h => ?_)
   · simp only [decide_eq_true_eq, Int.ofNat_lt] at h
     obtain ⟨x, hxk⟩ : ∃ x, xs[k]? = some x := ⟨_, List.getElem?_eq_getElem h⟩
     rw [drop_cons hxk]
     refine ⟨by kernel_rfl, by omega, by omega, ?_⟩
     simp only [method_specs_simp, seval, hxk, encEnt]
     change gB (.bool (entEq v x)) true _ _
     refine gB_split (fun h1 => ?_) (fun h1 => ?_)
     · rw [idxP_hit h1]
     · simp only [Bool.not_true] at h1
       rw [idxP_miss h1]
       refine Again.mk (k + 1) [0] ⟨h, rfl⟩ (Nat.sub_lt_sub_left h (Nat.lt_succ_self _)) ?_
       simp only [mvcgen_simp, method_specs_simp, seval, w1]
   · simp only [decide_eq_false_iff_not, Bool.not_true, Int.ofNat_lt] at h
     rw [List.drop_eq_nil_of_le (by omega)]
     simp
theorem c_containsN (xs : List Ent) (v : Ent) (hx : xs.length < 2 ^ 61) : Con P 94 [.sl 3 (xs.map encEnt), .agg (encEnt v)] (.bool (xs.any (entEq v))) := by
 refine Con.of (n := 9) (rs := [.tmp 4]) (Is.fn Tryz.func94) rfl (Is.call Tryz.call94) Tryz.results94 Tryz.ntmps94 trivial ?_
 simp only [method_specs_simp, seval]
 simp only [method_specs_simp, seval, encEnt]
 refine clY.con (c_indexN xs v hx) (by simp only [method_specs_simp, encEnt]) ?_
 simp only [method_specs_simp, seval]
 exact idxP_ge _ _
theorem c_resolve1 (s : List Ent) (x : Ent) (hx : s.length < 2 ^ 61) : Con P 93 [.sl 3 (s.map encEnt), .fptr (encEnt x) 0] (.bool (!s.any (entEq x))) := by
 refine Con.of (n := 8) (rs := [.tmp 3]) (Is.fn Tryz.func93) rfl (Is.call Tryz.call93) Tryz.results93 Tryz.ntmps93 trivial ?_
 simp only [method_specs_simp, seval]
 simp only [method_specs_simp, seval, encEnt]
 refine clY.con (c_containsN s x hx) (by simp only [method_specs_simp, encEnt]) ?_
 simp only [method_specs_simp, seval]
theorem c_or (xs : List Int) (hx : xs.length < 2 ^ 61) : Con P 98 [.sl 1 (xs.map encI)] (.int .i64 (orL xs)) := by
 refine Con.of (n := 18) (rs := [.tmp 2]) (Is.fn Tryz.func98) rfl (Is.call Tryz.call98) Tryz.results98 Tryz.ntmps98 trivial ?_
 simp only [method_specs_simp, seval]
 refine SW.while (A := Nat) (fun k => ⟨pad 18 [.sl 1 (xs.map encI), .junk, .int .i64 0, .int .i64 0, .junk, .junk, .sl 1 (xs.map encI), .int .i64 xs.length, .int .i64 k], [], []⟩) (fun k => xs.length - k) (fun k => k ≤ xs.length ∧ orL (xs.drop k) = orL xs) 0 [] ⟨Nat.zero_le _, by simp⟩ ?_ ?_
 · simp only [mvcgen_simp, method_specs_simp, seval]
 · rintro k ⟨hk, hr⟩
   have w1 : IntKind.i64.wrap ((k : Int) + 1) = ((k + 1 : Nat) : Int) := wadd1 k (by omega)
   refine CW.sound ?_
   simp only [method_specs_simp, seval]
   refine gB_split (fun h => ?_) (fun h => ?_)
   · simp only [decide_eq_true_eq, Int.ofNat_lt] at h
     obtain ⟨x, hxk⟩ : ∃ x, xs[k]? = some x := ⟨_, List.getElem?_eq_getElem h⟩
     rw [drop_cons hxk, orL] at hr
     simp only [method_specs_simp, seval, hxk, encI]
     refine ⟨by omega, by omega, ?_⟩
     refine gB_split (fun h1 => ?_) (fun h1 => ?_)
     · rw [if_pos (by simpa using h1)] at hr
       rw [hr]
     · rw [if_neg (by simpa using h1)] at hr
       refine Again.mk (k + 1) [] ⟨h, hr⟩ (Nat.sub_lt_sub_left h (Nat.lt_succ_self _)) ?_
       simp only [mvcgen_simp, method_specs_simp, seval, w1]
   · simp only [decide_eq_false_iff_not, Bool.not_true, Int.ofNat_lt] at h
     rw [List.drop_eq_nil_of_le (by omega)] at hr
     rw [← hr]
     rfl
theorem c_isFirst (e : Ev) : Con P 97 [.agg (encEv e)] (.bool (firstE e)) := by
 refine Con.of (n := 28) (rs := [.tmp 2]) (Is.fn Tryz.func97) rfl (Is.call Tryz.call97) Tryz.results97 Tryz.ntmps97 trivial ?_
 simp only [method_specs_simp, seval]
 simp only [method_specs_simp, seval, encEv]
 unfold firstE
 cases e.kind == 1 <;> cases e.kind == 3 <;> cases e.kind == 5 <;> cases e.kind == 2 <;> simp [method_specs_simp]
end
def fS : Option (List Ent) → V
 | none => .nil
 | some s => .sl 3 (s.map encEnt)
structure Hs where
 D : List (Int × Int)
 B : List (Int × Option (List Ent))
 A : List (Int × Option (List Ent))
 R : List (Int × Int)
def hRow (g : Gr) (x : Hs) : List V := [.int .i64 g.room, .sl 9 (g.events.map encEv), .sl 9 (g.parked.map encEv), .fmap (mpI .i64 (V.int .i64) x.D).1 (mpI .i64 (V.int .i64) x.D).2, .junk, .junk, .junk]
def hV (g : Gr) (x : Hs) : V := .fptr (hRow g x) 0
theorem fS_ref (ok : Nat → Prop) : ∀ b : Option (List Ent), Ref ok (fS b)
 | none => trivial
 | some s => of_eq_true (encEnt_refs ok s)
@[mvcgen_simp, method_specs_simp] theorem mpS_refs {ok : Nat → Prop} {kd : IntKind} {l : List (Int × Option (List Ent))} : Refs ok (mpI kd fS l).2 = True := mpI_refs2 (f := fS) fun b => fS_ref ok b
@[mvcgen_simp, method_specs_simp] theorem mpS_rens {ρ : Nat → Nat} {kd : IntKind} {l : List (Int × Option (List Ent))} : rens ρ (mpI kd fS l).2 = (mpI kd fS l).2 := mpI_rens2 (f := fS) fun b => by
 cases b with
 | none => rfl
 | some s => simp only [fS, V.ren, encEnt_rens]
theorem hRow_ref (ok : Nat → Prop) (g : Gr) (x : Hs) : Refs ok (hRow g x) := by
 simp only [hRow, Refs, Ref, encEv_refs, mpI_refs1, mpN_refs, mpS_refs, and_self]
def cmpD (D : List (Int × Int)) (a b : Ev) : Int := if firstE a != firstE b then (if firstE a then -1 else 1) else orL [cmpI (lookD D a.id 0) (lookD D b.id 0), cmpI a.time b.time, cmpI a.id b.id]
section
variable {P : Program} [Is P]
theorem c_resolve2 (g : Gr) (x : Hs) (a b : Ev) : Con P 96 [.agg (encEv a), .agg (encEv b), .fptr [hV g x] 0] (.int .i64 (cmpD x.D a b)) := by
 refine Con.of (n := 40) (rs := [.tmp 5]) (Is.fn Tryz.func96) rfl (Is.call Tryz.call96) Tryz.results96 Tryz.ntmps96 trivial ?_
 simp only [method_specs_simp, seval, hV, hRow, encEv, Bool.bne_true, Bool.bne_false]
 refine ⟨by kernel_rfl, ?_⟩
 refine clY.con (c_isFirst a) (by simp only [method_specs_simp, hV, hRow, encEv, Bool.bne_true, Bool.bne_false]) ?_
 simp only [method_specs_simp, seval, hV, hRow, encEv, Bool.bne_true, Bool.bne_false]
 refine clY.con (c_isFirst b) (by simp only [method_specs_simp, hV, hRow, encEv, Bool.bne_true, Bool.bne_false]) ?_
 simp only [method_specs_simp, seval, hV, hRow, encEv, Bool.bne_true, Bool.bne_false]
 unfold cmpD
 cases hfa : firstE a <;> cases hfb : firstE b
 case false.true =>
   simp only [method_specs_simp, seval, hV, hRow, encEv, Bool.bne_true, Bool.bne_false]
   refine clY.con (c_isFirst a) (by simp only [method_specs_simp, hV, hRow, encEv, Bool.bne_true, Bool.bne_false]) ?_
   simp only [method_specs_simp, seval, hV, hRow, encEv, Bool.bne_true, Bool.bne_false, hfa]
 case true.false =>
   simp only [method_specs_simp, seval, hV, hRow, encEv, Bool.bne_true, Bool.bne_false]
   refine clY.con (c_isFirst a) (by simp only [method_specs_simp, hV, hRow, encEv, Bool.bne_true, Bool.bne_false]) ?_
   simp only [method_specs_simp, seval, hV, hRow, encEv, Bool.bne_true, Bool.bne_false, hfa]
 all_goals
   simp only [method_specs_simp, seval, hV, hRow, encEv, Bool.bne_true, Bool.bne_false]
   refine ⟨by kernel_rfl, ?_⟩
   refine lkY.ints (V.int .i64) x.D 0 rfl (by simp only [method_specs_simp]) ?_
   simp only [method_specs_simp, seval, hV, hRow, encEv, Bool.bne_true, Bool.bne_false]
   refine lkY.ints (V.int .i64) x.D 0 rfl (by simp only [method_specs_simp]) ?_
   simp only [method_specs_simp, seval, hV, hRow, encEv, Bool.bne_true, Bool.bne_false]
   refine clY.con (c172 (lookD x.D a.id 0) (lookD x.D b.id 0)) (by simp only [method_specs_simp, hV, hRow, encEv, Bool.bne_true, Bool.bne_false]) ?_
   simp only [method_specs_simp, seval, hV, hRow, encEv, Bool.bne_true, Bool.bne_false]
   refine clY.con (c172 a.time b.time) (by simp only [method_specs_simp, hV, hRow, encEv, Bool.bne_true, Bool.bne_false]) ?_
   simp only [method_specs_simp, seval, hV, hRow, encEv, Bool.bne_true, Bool.bne_false]
   refine clY.con (c172 a.id b.id) (by simp only [method_specs_simp, hV, hRow, encEv, Bool.bne_true, Bool.bne_false]) ?_
   simp only [method_specs_simp, seval, hV, hRow, encEv, Bool.bne_true, Bool.bne_false]
   have hor := c_or (P := P) [cmpI (lookD x.D a.id 0) (lookD x.D b.id 0), cmpI a.time b.time, cmpI a.id b.id] (by simp)
   simp only [List.map_cons, List.map_nil, encI] at hor
   refine clY.conF hor (by simp only [method_specs_simp]) (by simp only [Refs, Ref, Refss, and_self]) trivial ?_
   simp only [method_specs_simp, seval, hV, hRow, encEv, Bool.bne_true, Bool.bne_false]
end
end Go.Proofs.YtdldgbkdcpdbeaaGreat
end

section
namespace Go.Proofs.YtdldgbkdcpdbeaaGreat
open Go.Pm
open Go.Gm (Ev Gr)
def encSS (s : List Ent) : List V := [.sl 3 (s.map encEnt)]
theorem encSS_ref1 (ok : Nat → Prop) (s : List Ent) : Refs ok (encSS s) := ⟨of_eq_true (encEnt_refs ok s), trivial⟩
@[method_specs_simp] theorem encSS_refs (ok : Nat → Prop) (l : List (List Ent)) : Refss ok (l.map encSS) = True := eq_true (Refss_map fun s => encSS_ref1 ok s)
@[method_specs_simp] theorem encSS_rens (ρ : Nat → Nat) (l : List (List Ent)) : renss ρ (l.map encSS) = l.map encSS := renss_map fun s => encSS_ref1 _ s
section
variable {P : Program} [Is P]
theorem c_indexFSS (xs : List (List Ent)) (f : FuncId) (caps : List V) (p : List Ent → Bool) (hc : Refs (fun _ => False) caps) (hf : ∀ x ∈ xs, Con P f ([.sl 3 (x.map encEnt)] ++ caps) (.bool (p x))) (hx : xs.length < 2 ^ 62) : Con P 89 [.sl 1 (xs.map encSS), .fn f [] caps] (.int .i64 (idxP p xs)) := by
 refine Con.of (n := 19) (rs := [.tmp 4]) (Is.fn Tryz.func89) rfl (Is.call Tryz.call89) Tryz.results89 Tryz.ntmps89 trivial ?_
 simp only [method_specs_simp, seval]
 refine SW.while (A := Nat) (fun k => ⟨pad 19 [.sl 1 (xs.map encSS), .fn f [] caps, .junk, .junk, .int .i64 0, .junk, .sl 1 (xs.map encSS), .int .i64 xs.length, .int .i64 k], [], []⟩) (fun k => xs.length - k)
   (fun k => k ≤ xs.length ∧ idxP p xs = if (xs.drop k).any p then (k : Int) + (((xs.drop k).findIdx p : Nat) : Int) else -1) 0 [] ⟨Nat.zero_le _, by simp [idxP]⟩ ?_ ?_
 · simp only [mvcgen_simp, method_specs_simp, seval, rens_pure _ hc]
   exact Refs.mono (fun _ h => h.elim) _ hc
 · rintro k ⟨hk, hr⟩
   rw [hr]
   refine CW.sound ?_
   simp only [method_specs_simp, seval]
   refine gB_split (fun h => ?_) (fun h => ?_)
   · simp only [decide_eq_true_eq, Int.ofNat_lt] at h
     have hxk : xs[k]? = some xs[k] := List.getElem?_eq_getElem h
     have hfk := hf _ (List.getElem_mem h)
     generalize xs[k] = x at hxk hfk
     rw [drop_cons hxk]
     simp only [List.getElem?_map, hxk, encSS, method_specs_simp, seval]
     refine ⟨by omega, by omega, ?_⟩
     refine clY.conC hfk rfl ⟨of_eq_true (encEnt_refs _ x), hc⟩ ?_
     simp only [method_specs_simp, seval]
     refine gB_split (fun h1 => ?_) (fun h1 => ?_)
     · rw [idxP_hit h1]
     · rw [wrap_id (by omega) (by omega), idxP_miss h1]
       refine Again.mk (k + 1) [] ⟨h, rfl⟩ (Nat.sub_lt_sub_left h (Nat.lt_succ_self _)) ?_
       simp only [mvcgen_simp, method_specs_simp, seval, rens_pure _ hc]
       exact Refs.mono (fun _ h => h.elim) _ hc
   · simp only [decide_eq_false_iff_not, Bool.not_true, Int.ofNat_lt] at h
     rw [List.drop_eq_nil_of_le (by omega)]
     simp
theorem c_containsFSS (xs : List (List Ent)) (f : FuncId) (caps : List V) (p : List Ent → Bool) (hc : Refs (fun _ => False) caps) (hf : ∀ x ∈ xs, Con P f ([.sl 3 (x.map encEnt)] ++ caps) (.bool (p x))) (hx : xs.length < 2 ^ 62) : Con P 53 [.sl 1 (xs.map encSS), .fn f [] caps] (.bool (xs.any p)) := by
 refine Con.of (n := 9) (rs := [.tmp 4]) (Is.fn Tryz.func53) rfl (Is.call Tryz.call53) Tryz.results53 Tryz.ntmps53 trivial ?_
 simp only [method_specs_simp, seval]
 refine clY.con (c_indexFSS xs f caps p hc hf hx) ⟨of_eq_true (encSS_refs _ xs), ⟨trivial, hc⟩, trivial⟩ ?_
 simp only [method_specs_simp, seval]
 exact idxP_ge p xs
end
def missS (l : List (List Ent)) (x : Ent) : Bool := l.any fun s => !s.any (entEq x)
def com (l : List (List Ent)) : List Ent := match l with
 | [] => []
 | s :: _ => s.filter fun x => !missS l x
def othI : List Int → List Ent → List Int
 | _, [] => []
 | met, x :: l => if met.contains x.id then othI met l else x.id :: othI (met ++ [x.id]) l
theorem othI_snoc : ∀ (l : List Ent) (met : List Int) (x : Ent), othI met (l ++ [x]) = othI met l ++ (if (met ++ othI met l).contains x.id then [] else [x.id])
 | [], met, x => by simp only [List.nil_append, othI, List.append_nil]
 | y :: l, met, x => by
   rw [List.cons_append]
   simp only [othI]
   split
   · exact othI_snoc l met x
   · rw [othI_snoc l _ x]
     simp
def evOf (g : Gr) (id : Int) : Ev := (atE g.events id).getD zE
def entE (e : Ev) : Ent := ⟨e.kind, e.key, e.id⟩
def stepR (g : Gr) (out : List Ent) (e : Ev) : List Ent := if allowedE g out e == 0 then putI out (entE e) else out
theorem sw_meet {P : Program} {x y : Code} {st : St} {Q : Exit → St → Prop} (stm : St) (h1 : Go.Pm.SW P x st (andThen (Again (fun _ : Bool => stm) Bool.toNat (fun _ => True) true) Q)) (h2 : Go.Pm.SW P y stm Q) : Go.Pm.SW P (.seq x y) st Q := by
 refine Go.Pm.SW.seq (Go.Pm.SW.mono h1 fun e st' h => ?_)
 cases e with
 | normal =>
   obtain ⟨a, ks, _, _, h⟩ := h
   exact Go.Pm.SW.wk ks h h2
 | exit id => exact h
 | goto l => exact h
 | ret => exact h
 | panic ch => exact h
 | outgrown => exact h
theorem again_meet {stm st' : St} (ks : List Nat) (h : Wk ks st' stm) : Again (fun _ : Bool => stm) Bool.toNat (fun _ => True) true st' := Again.mk false ks trivial (by decide) h
def metP (met : List Int) (k : Int) : List Int := if met.contains k then met else met ++ [k]
theorem put_in : ∀ (met : List Int) (k : Int), met.contains k = true → putK (metL met) k true = metL met
 | [], k, h => by simp at h
 | x :: met, k, h => by
   rw [List.contains_cons, Bool.or_eq_true] at h
   simp only [metL, putK, List.map_cons]
   cases hb : k == x with
   | true => rfl
   | false =>
     have ih := put_in met k (h.resolve_left (by rw [hb]; decide))
     simp only [metL] at ih
     simp only [Bool.false_eq_true, if_false, ih]
theorem put_metP (met : List Int) (k : Int) : putK (metL met) k true = metL (metP met k) := by
 unfold metP
 cases h : met.contains k with
 | true => rw [if_pos rfl]; exact put_in met k h
 | false => rw [if_neg (by decide)]; exact put_met met k h
def idsM (l : List Ent) : List Int := l.foldl (fun m x => metP m x.id) []
theorem idsM_next {l : List Ent} {i : Nat} {y : Ent} (h : l[i]? = some y) : idsM (l.take (i + 1)) = metP (idsM (l.take i)) y.id := by
 unfold idsM
 rw [List.take_add_one, h, Option.toList_some, List.foldl_append]; rfl
theorem convs_r8j {m : List Ob} {a b c d e f g h : V} {l : List V} : convs m (r8 a b c d e f g h l) = r8 (conv m a) (conv m b) (conv m c) (conv m d) (conv m e) (conv m f) (conv m g) (conv m h) (convs m l) := rfl
theorem conv_junkj {m : List Ob} : conv m .junk = .junk := rfl
theorem othI_spec : ∀ (l : List Ent) (met : List Int), (othI met l).Nodup ∧ ∀ z ∈ othI met l, z ∉ met ∧ ∃ x ∈ l, x.id = z
 | [], met => ⟨List.nodup_nil, fun z hz => by simp [othI] at hz⟩
 | y :: l, met => by
   simp only [othI]
   split
   · obtain ⟨h1, h2⟩ := othI_spec l met
     exact ⟨h1, fun z hz => ⟨(h2 z hz).1, by obtain ⟨x, hx, e⟩ := (h2 z hz).2; exact ⟨x, List.mem_cons_of_mem _ hx, e⟩⟩⟩
   · rename_i hc
     obtain ⟨h1, h2⟩ := othI_spec l (met ++ [y.id])
     refine ⟨List.nodup_cons.2 ⟨fun hm => (h2 _ hm).1 (by simp), h1⟩, fun z hz => ?_⟩
     rcases List.mem_cons.1 hz with rfl | hz
     · exact ⟨fun hm => hc (List.contains_iff_mem.2 hm), y, List.mem_cons_self, rfl⟩
     · obtain ⟨a1, x, hx, e⟩ := h2 z hz
       exact ⟨fun hm => a1 (List.mem_append_left _ hm), x, List.mem_cons_of_mem _ hx, e⟩
def othE (g : Gr) (l : List (List Ent)) : List Ev := (othI (idsM (com l)) l.flatten).map (evOf g)
def fk (e : Ev) : Int := if firstE e then 0 else 1
theorem cmpD_iff {D : List (Int × Int)} {a b : Ev} : cmpD D a b < 0 ↔ fk a < fk b ∨ (fk a = fk b ∧ (lookD D a.id 0 < lookD D b.id 0 ∨ (lookD D a.id 0 = lookD D b.id 0 ∧ (a.time < b.time ∨ (a.time = b.time ∧ a.id < b.id))))) := by
 have hc : ∀ p q : Int, (cmpI p q < 0 ↔ p < q) ∧ (cmpI p q = 0 ↔ p = q) := fun p q => by
   unfold cmpI
   constructor <;> split <;> (try split) <;> omega
 have h1 := hc (lookD D a.id 0) (lookD D b.id 0)
 have h2 := hc a.time b.time
 have h3 := hc a.id b.id
 have key : ∀ p q r : Int, (orL [p, q, r] < 0 ↔ p < 0 ∨ (p = 0 ∧ (q < 0 ∨ (q = 0 ∧ r < 0)))) := by
   intro p q r
   simp only [orL, ne_eq, ite_not]
   split
   · split
     · split <;> omega
     · omega
   · omega
 have hk := key (cmpI (lookD D a.id 0) (lookD D b.id 0)) (cmpI a.time b.time) (cmpI a.id b.id)
 rw [h1.1, h1.2, h2.1, h2.2, h3.1] at hk
 unfold cmpD fk
 cases firstE a <;> cases firstE b
 · simpa using hk
 · simp
 · simp
 · simpa using hk
theorem cmpD_irr (D : List (Int × Int)) (a : Ev) : ¬ cmpD D a a < 0 := by rw [cmpD_iff]; omega
theorem cmpD_tr {D : List (Int × Int)} {a b c : Ev} (h1 : cmpD D a b < 0) (h2 : cmpD D b c < 0) : cmpD D a c < 0 := by rw [cmpD_iff] at *; omega
theorem cmpD_nt {D : List (Int × Int)} {a b c : Ev} (h1 : ¬ cmpD D a b < 0) (h2 : ¬ cmpD D b c < 0) : ¬ cmpD D a c < 0 := by rw [cmpD_iff] at *; omega
theorem cmpD_tot {D : List (Int × Int)} {a b : Ev} (h : a.id ≠ b.id) (h1 : ¬ cmpD D b a < 0) : cmpD D a b < 0 := by rw [cmpD_iff] at *; omega
def ordR (D : List (Int × Int)) (L : List Ev) : List Ev := L.mergeSort fun a b => !decide (cmpD D b a < 0)
def resI (g : Gr) (D : List (Int × Int)) (l : List (List Ent)) : List Ent := (ordR D (othE g l)).foldl (stepR g) (com l)
theorem ordR_uniq {D : List (Int × Int)} {L : List Ev} (hn : (L.map (·.id)).Nodup) {l2 : List Ev} (hp : l2.Perm L) (hs : l2.Pairwise fun a b => ¬ cmpD D b a < 0) : l2 = ordR D L := by
 have key : ∀ l3 : List Ev, l3.Perm L → (l3.Pairwise fun a b => ¬ cmpD D b a < 0) → l3.Pairwise fun a b => cmpD D a b < 0 := by
   intro l3 hp3 hs3
   have hn3 : (l3.map (·.id)).Nodup := (hp3.map (·.id)).symm.nodup hn
   have h4 : l3.Pairwise fun a b => a.id ≠ b.id := List.pairwise_map.1 hn3
   exact List.Pairwise.imp (fun {a b} h => cmpD_tot h.2 h.1) (hs3.and h4)
 have hm : (ordR D L).Pairwise fun a b => ¬ cmpD D b a < 0 := by
   have := List.pairwise_mergeSort (le := fun a b => !decide (cmpD D b a < 0)) (fun a b c h1 h2 => by simp only [Bool.not_eq_true', decide_eq_false_iff_not] at *; exact cmpD_nt h2 h1) (fun a b => by
     simp only [Bool.or_eq_true, Bool.not_eq_true', decide_eq_false_iff_not]
     by_cases h : cmpD D b a < 0
     · exact .inr fun h2 => cmpD_irr D a (cmpD_tr h2 h)
     · exact .inl h) L
   exact List.Pairwise.imp (fun {a b} h => by simpa using h) this
 have hpm : (ordR D L).Perm L := List.mergeSort_perm _ _
 exact Gm.sorted_one (T := fun a b => cmpD D a b < 0) ⟨cmpD_irr D, fun a b c h1 h2 => cmpD_tr h1 h2⟩ (hp.trans hpm.symm) (key _ hp hs) (key _ hpm hm)
structure SL (g : Gr) (l : List (List Ent)) : Prop where
 n : l.length ≤ 60
 len : ∀ s ∈ l, s.length ≤ 400
 srt : ∀ s ∈ l, s.Pairwise ltE
 has : ∀ s ∈ l, ∀ x ∈ s, entOf g x = true
theorem evOf_id {g : Gr} {x : Ent} (h : entOf g x = true) : (evOf g x.id).id = x.id := by
 unfold entOf at h
 simp only [Bool.and_eq_true] at h
 unfold evOf
 cases hh : atE g.events x.id with
 | none => rw [hh] at h; exact absurd h.1 (by decide)
 | some e =>
   have := List.find?_some hh
   simpa using this
theorem othE_nodup {g : Gr} {l : List (List Ent)} (hl : SL g l) : ((othE g l).map (·.id)).Nodup := by
 obtain ⟨h1, h2⟩ := othI_spec l.flatten (idsM (com l))
 have : (othE g l).map (·.id) = othI (idsM (com l)) l.flatten := by
   unfold othE
   rw [List.map_map]
   conv => rhs; rw [← List.map_id (othI (idsM (com l)) l.flatten)]
   refine List.map_congr_left fun z hz => ?_
   obtain ⟨_, x, hx, e⟩ := h2 z hz
   obtain ⟨s, hs, hxs⟩ := List.mem_flatten.1 hx
   have := evOf_id (hl.has s hs x hxs)
   rw [e] at this
   exact this
 rw [this]; exact h1
def preL (l : List (List Ent)) (i : Nat) (s : List Ent) (j : Nat) : List Ent := (l.take i).flatten ++ s.take j
theorem preL_next {l : List (List Ent)} {i : Nat} {s : List Ent} (h : l[i]? = some s) : preL l (i + 1) [] 0 = preL l i s s.length := by
 unfold preL
 rw [List.take_add_one, h, Option.toList_some, List.flatten_append, List.take_length]
 simp
theorem preL_zero (l : List (List Ent)) (i : Nat) (s : List Ent) : preL l i s 0 = preL l i [] 0 := by simp [preL]
theorem preL_all (l : List (List Ent)) : preL l l.length [] 0 = l.flatten := by unfold preL; rw [List.take_length]; simp
theorem preL_step {l : List (List Ent)} {i : Nat} {s : List Ent} {j : Nat} {y : Ent} (h : s[j]? = some y) : preL l i s (j + 1) = preL l i s j ++ [y] := by
 unfold preL
 rw [List.take_add_one, h, Option.toList_some, List.append_assoc]
theorem othI_len : ∀ (l : List Ent) (met : List Int), (othI met l).length ≤ l.length
 | [], _ => Nat.le_refl _
 | x :: l, met => by
   simp only [othI]
   split
   · have := othI_len l met; simp only [List.length_cons]; omega
   · have := othI_len l (met ++ [x.id]); simp only [List.length_cons]; omega
theorem flat_len {l : List (List Ent)} (h : ∀ s ∈ l, s.length ≤ 400) : l.flatten.length ≤ 400 * l.length := by
 induction l with
 | nil => exact Nat.zero_le _
 | cons s l ih =>
   have h1 := h s List.mem_cons_self
   have h2 := ih fun s hs => h s (List.mem_cons_of_mem _ hs)
   simp only [List.flatten_cons, List.length_append, List.length_cons]
   omega
theorem oth_bound {g : Gr} {l : List (List Ent)} (hl : SL g l) (met : List Int) (i : Nat) {s : List Ent} (hs : s.length ≤ 400) (j : Nat) : (othI met (preL l i s j)).length ≤ 30000 := by
 have h1 := othI_len (preL l i s j) met
 have h2 := flat_len (l := l.take i) fun s hs => hl.len s (List.mem_of_mem_take hs)
 have h3 := hl.n
 have h4 : (l.take i).length ≤ l.length := by rw [List.length_take]; omega
 have h5 : (s.take j).length ≤ s.length := by rw [List.length_take]; omega
 unfold preL at h1
 rw [List.length_append] at h1
 unfold preL
 omega
def comA (l : List (List Ent)) (s : List Ent) (j : Nat) : List Ent := (s.take j).filter fun x => !missS l x
section
variable {P : Program} [Is P]
theorem c_put (xs : List Ent) (x : Ent) (hx : (xs.length + 1) * 24 ≤ 2 ^ 39) : Con P 101 [.sl 3 (xs.map encEnt), .agg (encEnt x)] (.sl 3 ((putI xs x).map encEnt)) := by
 have h := (n119 (P := P) xs x hx).con (by simp only [method_specs_simp])
 have e : convR [Ob.arr true 3 ((putI xs x).map encEnt)] (.ar 0 0 (putI xs x).length) = .sl 3 ((putI xs x).map encEnt) := by simp only [method_specs_simp, List.take_of_length_le, List.length_map, Nat.le_refl]
 rwa [e] at h
theorem b_sortEv : bodyOK P 95 = true := Is.on (fun P => bodyOK P 95 = true) (by kernel_rfl)
theorem n_resolve (g : Gr) (x : Hs) (l : List (List Ent)) (h : GG g) (hl : SL g l) : NCon P 56 [hV g x, .sl 1 (l.map encSS)] (.ar 0 0 (resI g x.D l).length) [.arr true 3 ((resI g x.D l).map encEnt)] := by
 have hln := hl.n
 refine LCon.new (LCon.ofS (n := 117) (rs := [.tmp 4]) (Is.fn Tryz.func56) rfl (Is.call Tryz.call56) Tryz.results56 Tryz.ntmps56 ?_) (pure1 (pure_ents _ _))
 refine SW.seq (CW.sound ?_)
 simp only [method_specs_simp, seval, hV, hRow]
 refine SW.seq (CW.sound ?_)
 simp only [method_specs_simp, seval, hV, hRow]
 refine sw_meet ⟨pad 117 [.junk, .sl 1 (l.map encSS), .ptr 0 0, .junk, .nil, .ar 1 0 (com l).length, .ar 2 0 0], [.box true [hV g x], .arr true 3 ((com l).map encEnt), .arr true 9 []], []⟩ ?_ ?_
 · refine CW.sound ?_
   simp only [method_specs_simp, seval, hV, hRow]
   refine gB_split (fun hpos => ?_) (fun hpos => ?_)
   · simp only [decide_eq_true_eq] at hpos
     obtain ⟨s0, hs0⟩ : ∃ s0, l[0]? = some s0 := ⟨_, List.getElem?_eq_getElem (by omega)⟩
     have hs0l := hl.len s0 (List.mem_of_getElem? hs0)
     have hcom : com l = comA l s0 s0.length := by
       cases l with
       | nil => simp at hs0
       | cons s l => simp at hs0; subst hs0; unfold com comA; rw [List.take_length]
     simp only [method_specs_simp, seval, hV, hRow, hs0, encSS]
     refine ⟨by omega, ?_⟩
     refine SW.while (A := Nat) (fun j => ⟨pad 117 [.junk, .sl 1 (l.map encSS), .ptr 0 0, .junk, .nil, .ar 1 0 (comA l s0 j).length, .ar 2 0 0, .junk, .junk, .junk, .junk, .junk, .junk, .junk, .junk, .junk, .junk, .junk, .junk, .junk, .junk, .junk, .junk, .junk, .junk, .junk, .junk, .sl 3 (s0.map encEnt), .int .i64 s0.length, .int .i64 j], [.box true [hV g x], .arr true 3 ((comA l s0 j).map encEnt), .arr true 9 []], []⟩) (fun j => s0.length - j) (fun j => j ≤ s0.length) 0 [0, 1, 2] (Nat.zero_le _) ?_ ?_
     · have h0 : comA l s0 0 = [] := rfl
       rw [h0]
       simp only [mvcgen_simp, method_specs_simp, seval, hV, hRow]
     · intro j hj
       have hal : (comA l s0 j).length ≤ 400 := by
         have h1 := List.length_filter_le (fun x => !missS l x) (s0.take j)
         unfold comA
         rw [List.length_take] at h1
         omega
       have w1 : IntKind.i64.wrap ((j : Int) + 1) = ((j + 1 : Nat) : Int) := wadd1 j (by omega)
       refine CW.sound ?_
       simp only [method_specs_simp, seval, hV, hRow]
       refine gB_split (fun h1 => ?_) (fun h1 => ?_)
       · simp only [decide_eq_true_eq, Int.ofNat_lt] at h1
         obtain ⟨y, hy⟩ : ∃ y, s0[j]? = some y := ⟨_, List.getElem?_eq_getElem h1⟩
         simp only [method_specs_simp, seval, hV, hRow, hy, encEnt]
         refine ⟨by omega, by omega, ?_⟩
         refine clY.conF (c_containsFSS l _ [.fptr (encEnt y) 0] (fun s => !s.any (entEq y)) ⟨of_eq_true (encEnt_refs1 _ y), trivial⟩ (fun s hs => c_resolve1 s y (by have := hl.len s hs; omega)) (by omega)) (by simp only [method_specs_simp, encEnt]) ⟨of_eq_true (encSS_refs _ l), ⟨trivial, of_eq_true (encEnt_refs1 _ y), trivial⟩, trivial⟩ trivial ?_
         have hnx : comA l s0 (j + 1) = comA l s0 j ++ (if (!missS l y) = true then [y] else []) := by unfold comA; rw [filter_s hy]
         change _
         cases hms : missS l y with
         | true =>
           rw [hms, Bool.not_true, if_neg (by decide), List.append_nil] at hnx
           have hms2 : (l.any fun s => !s.any (entEq y)) = true := hms
           rw [hms2]
           simp only [method_specs_simp, seval, hV, hRow]
           refine Again.mk (j + 1) [0, 1, 2] h1 (Nat.sub_lt_sub_left h1 (Nat.lt_succ_self _)) ?_
           rw [hnx]
           simp only [mvcgen_simp, method_specs_simp, seval, hV, hRow, w1]
         | false =>
           rw [hms, Bool.not_false, if_pos rfl] at hnx
           have hms2 : (l.any fun s => !s.any (entEq y)) = false := hms
           rw [hms2]
           have e1 : (comA l s0 j).map encEnt ++ [[V.int .i64 y.kind, V.int .i64 y.key, V.int .i64 y.id]] = (comA l s0 (j + 1)).map encEnt := by rw [hnx, List.map_append]; rfl
           have e2 : (comA l s0 j).length + 1 = (comA l s0 (j + 1)).length := by rw [hnx, List.length_append]; rfl
           simp only [method_specs_simp, seval, hV, hRow]
           refine ⟨by omega, by omega, ?_⟩
           rw [e1, e2]
           refine Again.mk (j + 1) [0, 5, 2] h1 (Nat.sub_lt_sub_left h1 (Nat.lt_succ_self _)) ?_
           simp only [mvcgen_simp, method_specs_simp, seval, hV, hRow, w1]
       · have hj2 : j = s0.length := by simp only [decide_eq_false_iff_not, Bool.not_true, Int.ofNat_lt] at h1; omega
         refine again_meet [0, 1, 2] ?_
         rw [hcom, hj2]
         simp only [mvcgen_simp, method_specs_simp, seval, hV, hRow]
   · have hl0 : l = [] := by
       cases l with
       | nil => rfl
       | cons s l => simp at hpos
     subst hl0
     refine again_meet [0, 1, 2] ?_
     have h0 : com [] = [] := rfl
     rw [h0]
     simp only [mvcgen_simp, method_specs_simp, seval, hV, hRow]
 · have hcl : (com l).length ≤ 400 := by
     cases l with
     | nil => exact Nat.zero_le _
     | cons s l =>
       have h1 := hl.len s List.mem_cons_self
       have h2 := List.length_filter_le (fun x => !missS (s :: l) x) s
       show (s.filter fun x => !missS (s :: l) x).length ≤ 400
       omega
   obtain ⟨o, ho⟩ : ∃ o, o = com l := ⟨_, rfl⟩
   rw [← ho] at hcl ⊢
   refine SW.seq (CW.sound ?_)
   simp only [method_specs_simp, seval, hV, hRow]
   refine sw_meet ⟨pad 117 [.junk, .sl 1 (l.map encSS), .ptr 0 0, .junk, .nil, .ar 1 0 o.length, .ar 2 0 0, .junk, .junk, .map 3], [.box true [hV g x], .arr true 3 (o.map encEnt), .arr true 9 [], .mp true (mpI .i64 V.bool (metL (idsM o))).1 (mpI .i64 V.bool (metL (idsM o))).2], []⟩ ?_ ?_
   · refine CW.sound ?_
     simp only [method_specs_simp, seval, hV, hRow]
     refine SW.while (A := Nat) (fun j => ⟨pad 117 [.junk, .sl 1 (l.map encSS), .ptr 0 0, .junk, .nil, .ar 1 0 o.length, .ar 2 0 0, .junk, .junk, .map 3, .junk, .junk, .junk, .junk, .junk, .junk, .junk, .junk, .junk, .junk, .junk, .junk, .junk, .junk, .junk, .junk, .junk, .junk, .junk, .junk, .junk, .junk, .junk, .junk, .junk, .junk, .junk, .junk, .junk, .junk, .junk, .junk, .junk, .ar 1 0 o.length, .int .i64 o.length, .int .i64 j], [.box true [hV g x], .arr true 3 (o.map encEnt), .arr true 9 [], .mp true (mpI .i64 V.bool (metL (idsM (o.take j)))).1 (mpI .i64 V.bool (metL (idsM (o.take j)))).2], []⟩) (fun j => o.length - j) (fun j => j ≤ o.length) 0 [0, 1, 2, 3] (Nat.zero_le _) ?_ ?_
     · have h0 : idsM (o.take 0) = [] := rfl
       have hz : mpI .i64 V.bool (metL []) = ([], []) := rfl
       rw [h0]
       simp only [mvcgen_simp, method_specs_simp, seval, hV, hRow, hz]
     · intro j hj
       have w1 : IntKind.i64.wrap ((j : Int) + 1) = ((j + 1 : Nat) : Int) := wadd1 j (by omega)
       refine CW.sound ?_
       simp only [method_specs_simp, seval, hV, hRow]
       refine gB_split (fun h1 => ?_) (fun h1 => ?_)
       · simp only [decide_eq_true_eq, Int.ofNat_lt] at h1
         obtain ⟨y, hy⟩ : ∃ y, o[j]? = some y := ⟨_, List.getElem?_eq_getElem h1⟩
         simp only [method_specs_simp, seval, hV, hRow, hy, encEnt]
         refine ⟨by omega, by omega, ?_⟩
         refine muY.ints V.bool (metL (idsM (o.take j))) true false rfl (by simp only [method_specs_simp]) ?_
         rw [put_metP, ← idsM_next hy]
         simp only [method_specs_simp, seval, hV, hRow]
         refine Again.mk (j + 1) [0, 1, 2, 3] h1 (Nat.sub_lt_sub_left h1 (Nat.lt_succ_self _)) ?_
         simp only [mvcgen_simp, method_specs_simp, seval, hV, hRow, w1]
       · have hj2 : j = o.length := by simp only [decide_eq_false_iff_not, Bool.not_true, Int.ofNat_lt] at h1; omega
         refine again_meet [0, 1, 2, 3] ?_
         rw [hj2, List.take_of_length_le (Nat.le_refl _)]
         simp only [mvcgen_simp, method_specs_simp, seval, hV, hRow]
   · refine sw_meet ⟨pad 117 [.junk, .junk, .ptr 0 0, .junk, .nil, .ar 1 0 o.length, .ar 2 0 (othI (idsM o) l.flatten).length], [.box true [hV g x], .arr true 3 (o.map encEnt), .arr true 9 (((othI (idsM o) l.flatten).map (evOf g)).map encEv)], []⟩ ?_ ?_
     · refine CW.sound ?_
       simp only [method_specs_simp, seval, hV, hRow]
       refine SW.while (A := Nat) (fun i => ⟨pad 117 [.junk, .junk, .ptr 0 0, .junk, .nil, .ar 1 0 o.length, .ar 2 0 (othI (idsM o) (preL l i [] 0)).length, .junk, .junk, .map 3, .junk, .junk, .junk, .junk, .junk, .junk, .junk, .junk, .junk, .junk, .junk, .junk, .junk, .junk, .junk, .junk, .junk, .junk, .junk, .junk, .junk, .junk, .junk, .junk, .junk, .junk, .junk, .junk, .junk, .junk, .junk, .junk, .junk, .junk, .junk, .junk, .junk, .junk, .junk, .junk, .junk, .junk, .junk, .sl 1 (l.map encSS), .int .i64 l.length, .int .i64 i], [.box true [hV g x], .arr true 3 (o.map encEnt), .arr true 9 (((othI (idsM o) (preL l i [] 0)).map (evOf g)).map encEv), .mp true (mpI .i64 V.bool (metL (idsM o ++ othI (idsM o) (preL l i [] 0)))).1 (mpI .i64 V.bool (metL (idsM o ++ othI (idsM o) (preL l i [] 0)))).2], []⟩) (fun i => l.length - i) (fun i => i ≤ l.length) 0 [0, 1, 2, 3] (Nat.zero_le _) ?_ ?_
       · have h0 : othI (idsM o) (preL l 0 [] 0) = [] := rfl
         rw [h0, List.append_nil]
         simp only [mvcgen_simp, method_specs_simp, seval, hV, hRow]
       · intro i hi
         have w1 : IntKind.i64.wrap ((i : Int) + 1) = ((i + 1 : Nat) : Int) := wadd1 i (by omega)
         refine CW.sound ?_
         simp only [method_specs_simp, seval, hV, hRow]
         refine gB_split (fun h1 => ?_) (fun h1 => ?_)
         · simp only [decide_eq_true_eq, Int.ofNat_lt] at h1
           obtain ⟨s, hs⟩ : ∃ s, l[i]? = some s := ⟨_, List.getElem?_eq_getElem h1⟩
           have hsl := hl.len s (List.mem_of_getElem? hs)
           simp only [method_specs_simp, seval, hV, hRow, hs, encSS]
           refine ⟨by omega, by omega, ?_⟩
           refine SW.while (A := Nat) (fun j => ⟨pad 117 [.junk, .junk, .ptr 0 0, .junk, .nil, .ar 1 0 o.length, .ar 2 0 (othI (idsM o) (preL l i s j)).length, .junk, .junk, .map 3, .junk, .junk, .junk, .junk, .junk, .junk, .junk, .junk, .junk, .junk, .junk, .junk, .junk, .junk, .junk, .junk, .junk, .junk, .junk, .junk, .junk, .junk, .junk, .junk, .junk, .junk, .junk, .junk, .junk, .junk, .junk, .junk, .junk, .junk, .junk, .junk, .junk, .junk, .junk, .junk, .junk, .junk, .junk, .sl 1 (l.map encSS), .int .i64 l.length, .int .i64 i, .junk, .junk, .junk, .sl 3 (s.map encEnt), .int .i64 s.length, .int .i64 j], [.box true [hV g x], .arr true 3 (o.map encEnt), .arr true 9 (((othI (idsM o) (preL l i s j)).map (evOf g)).map encEv), .mp true (mpI .i64 V.bool (metL (idsM o ++ othI (idsM o) (preL l i s j)))).1 (mpI .i64 V.bool (metL (idsM o ++ othI (idsM o) (preL l i s j)))).2], []⟩) (fun j => s.length - j) (fun j => j ≤ s.length) 0 [0, 1, 2, 3] (Nat.zero_le _) ?_ ?_
           · rw [preL_zero l i s]
             simp only [mvcgen_simp, method_specs_simp, seval, hV, hRow]
           · intro j hj
             have hob := oth_bound hl (idsM o) i hsl j
             have w2 : IntKind.i64.wrap ((j : Int) + 1) = ((j + 1 : Nat) : Int) := wadd1 j (by omega)
             refine CW.sound ?_
             simp only [method_specs_simp, seval, hV, hRow]
             refine gB_split (fun h2 => ?_) (fun h2 => ?_)
             · simp only [decide_eq_true_eq, Int.ofNat_lt] at h2
               obtain ⟨y, hy⟩ : ∃ y, s[j]? = some y := ⟨_, List.getElem?_eq_getElem h2⟩
               have hst := preL_step (l := l) (i := i) hy
               obtain ⟨met, hmet⟩ : ∃ met, met = idsM o ++ othI (idsM o) (preL l i s j) := ⟨_, rfl⟩
               have hsn := othI_snoc (preL l i s j) (idsM o) y
               rw [← hst, ← hmet] at hsn
               simp only [method_specs_simp, seval, hV, hRow, hy, encEnt]
               refine ⟨by omega, by omega, ?_⟩
               refine lkY.ints V.bool (metL (idsM o ++ othI (idsM o) (preL l i s j))) false rfl (by simp only [method_specs_simp]) ?_
               rw [look_met, ← hmet]
               cases hmc : met.contains y.id with
               | true =>
                 rw [hmc, if_pos rfl, List.append_nil] at hsn
                 simp only [method_specs_simp, seval, hV, hRow]
                 refine Again.mk (j + 1) [0, 1, 2, 3] h2 (Nat.sub_lt_sub_left h2 (Nat.lt_succ_self _)) ?_
                 rw [hsn, ← hmet]
                 simp only [mvcgen_simp, method_specs_simp, seval, hV, hRow, w2]
               | false =>
                 rw [hmc, if_neg (by decide)] at hsn
                 simp only [method_specs_simp, seval, hV, hRow]
                 refine muY.ints V.bool (metL met) true false rfl (by simp only [method_specs_simp]) ?_
                 rw [put_met met y.id hmc]
                 simp only [method_specs_simp, seval, hV, hRow]
                 refine ⟨by kernel_rfl, ?_⟩
                 refine clY.con (c_at g y.id h.hx h.srt) (by simp only [method_specs_simp, encGr]) ?_
                 obtain ⟨e2, he2⟩ : ∃ e2, e2 = (atE g.events y.id).getD zE := ⟨_, rfl⟩
                 have hev : evOf g y.id = e2 := he2.symm
                 rw [← he2]
                 simp only [method_specs_simp, seval, hV, hRow, encEv]
                 have e1 : ((othI (idsM o) (preL l i s j)).map (evOf g)).map encEv ++ [[V.int .i64 e2.id, V.int .i64 e2.room, V.int .i64 e2.author, V.int .i64 e2.kind, V.int .i64 e2.key, V.int .i64 e2.n, V.str e2.text, V.sl 1 (e2.prev.map encI), V.int .i64 e2.time]] = ((othI (idsM o) (preL l i s (j + 1))).map (evOf g)).map encEv := by rw [hsn, List.map_append, List.map_append, List.map_singleton, List.map_singleton, hev]; rfl
                 have e3 : (othI (idsM o) (preL l i s j)).length + 1 = (othI (idsM o) (preL l i s (j + 1))).length := by rw [hsn, List.length_append]; rfl
                 have e4 : met ++ [y.id] = idsM o ++ othI (idsM o) (preL l i s (j + 1)) := by rw [hsn, hmet, List.append_assoc]
                 refine ⟨by omega, by omega, ?_⟩
                 rw [e1, e3, e4]
                 refine Again.mk (j + 1) [0, 1, 7, 3] h2 (Nat.sub_lt_sub_left h2 (Nat.lt_succ_self _)) ?_
                 simp only [mvcgen_simp, method_specs_simp, seval, hV, hRow, w2]
             · have hj2 : j = s.length := by simp only [decide_eq_false_iff_not, Bool.not_true, Int.ofNat_lt] at h2; omega
               refine Again.mk (i + 1) [0, 1, 2, 3] h1 (Nat.sub_lt_sub_left h1 (Nat.lt_succ_self _)) ?_
               rw [preL_next hs, hj2]
               simp only [mvcgen_simp, method_specs_simp, seval, hV, hRow, w1]
         · have hi2 : i = l.length := by simp only [decide_eq_false_iff_not, Bool.not_true, Int.ofNat_lt] at h1; omega
           refine again_meet [0, 1, 2] ?_
           rw [hi2, preL_all]
           simp only [mvcgen_simp, method_specs_simp, seval, hV, hRow]
     · obtain ⟨L, hL⟩ : ∃ L, L = othE g l := ⟨_, rfl⟩
       have hL2 : (othI (idsM o) l.flatten).map (evOf g) = L := by rw [hL, ho]; rfl
       have hLn : (othI (idsM o) l.flatten).length = L.length := by rw [← hL2, List.length_map]
       have hLb : L.length ≤ 30000 := by
         have h1 := oth_bound hl (idsM o) l.length (s := []) (Nat.zero_le _) 0
         rw [preL_all, hLn] at h1
         exact h1
       have hso : LCon P 95 [.ar 0 0 L.length, .fn 96 [] [.fptr [hV g x] 0]] [.arr true 9 (L.map encEv)] (.tup []) [.arr true 9 ((ordR x.D L).map encEv)] :=
         LCon.sortK (k := 9) (fun _ => rfl) (by decide) (fun b => encEv_ref1 _ b) (fun b => encEv_one1 [] b) (caps := [.fptr [hV g x] 0]) ⟨⟨hRow_ref _ g x, trivial⟩, trivial⟩ (cmpD x.D) (fun a _ b _ => c_resolve2 g x a b) (fun a _ => cmpD_irr x.D a) (fun a _ b _ c _ h1 h2 => cmpD_tr h1 h2) (fun a _ b _ c _ h1 h2 => cmpD_nt h1 h2) (fun l2 hp hs => ordR_uniq (hL ▸ othE_nodup hl) hp hs) (by omega) b_sortEv (Is.call Tryz.call96) k_sortEvent k_sortEvent0
       rw [hL2, hLn]
       refine SW.seq (CW.sound ?_)
       simp only [method_specs_simp, seval, hV, hRow]
       refine clY.live [2] [0] hso ?_ (by simp) ?_
       · simp only [mvcgen_simp, method_specs_simp, seval, hV, hRow]
       obtain ⟨S, hS⟩ : ∃ S, S = ordR x.D L := ⟨_, rfl⟩
       have hSl : S.length = L.length := by rw [hS]; exact (List.mergeSort_perm _ _).length_eq
       rw [← hS]
       simp only [method_specs_simp, seval, hV, hRow]
       have htk : List.take S.length (S.map encEv) = S.map encEv := List.take_of_length_le (by rw [List.length_map]; exact Nat.le_refl _)
       have hRe : resI g x.D l = S.foldl (stepR g) o := by unfold resI; rw [hS, hL, ho]
       have hos : o.Pairwise ltE := by
         rw [ho]
         cases l with
         | nil => exact List.Pairwise.nil
         | cons s l => exact (hl.srt s List.mem_cons_self).sublist List.filter_sublist
       rw [hRe, ← hSl]
       refine SW.freeze [2] ?_
       simp only [mvcgen_simp, method_specs_simp, seval, hV, hRow, convs_r8j, conv_junkj, htk]
       refine SW.seq (CW.sound ?_)
       simp only [method_specs_simp, seval, hV, hRow]
       refine SW.while (A := Nat) (fun k => ⟨pad 117 [.junk, .junk, .fptr [hV g x] 0, .junk, .nil, .ar 0 0 ((S.take k).foldl (stepR g) o).length, .junk, .junk, .junk, .junk, .junk, .junk, .junk, .junk, .junk, .junk, .junk, .junk, .junk, .junk, .junk, .junk, .junk, .junk, .junk, .junk, .junk, .junk, .junk, .junk, .junk, .junk, .junk, .junk, .junk, .junk, .junk, .junk, .junk, .junk, .junk, .junk, .junk, .junk, .junk, .junk, .junk, .junk, .junk, .junk, .junk, .junk, .junk, .junk, .junk, .junk, .junk, .junk, .junk, .junk, .junk, .junk, .junk, .junk, .junk, .junk, .junk, .junk, .junk, .junk, .junk, .junk, .junk, .junk, .junk, .junk, .junk, .junk, .junk, .junk, .junk, .junk, .junk, .junk, .junk, .junk, .junk, .junk, .junk, .junk, .junk, .junk, .sl 9 (S.map encEv), .int .i64 S.length, .int .i64 k], [.arr true 3 (((S.take k).foldl (stepR g) o).map encEnt)], []⟩) (fun k => S.length - k) (fun k => k ≤ S.length ∧ ((S.take k).foldl (stepR g) o).Pairwise ltE ∧ ((S.take k).foldl (stepR g) o).length ≤ 400 + k) 0 [1] ⟨Nat.zero_le _, hos, by simpa using hcl⟩ ?_ ?_
       · simp only [mvcgen_simp, method_specs_simp, seval, hV, hRow, List.take_zero, List.foldl_nil]
       · rintro k ⟨hk, hk1, hk2⟩
         have w1 : IntKind.i64.wrap ((k : Int) + 1) = ((k + 1 : Nat) : Int) := wadd1 k (by omega)
         refine CW.sound ?_
         simp only [method_specs_simp, seval, hV, hRow]
         refine gB_split (fun h1 => ?_) (fun h1 => ?_)
         · simp only [decide_eq_true_eq, Int.ofNat_lt] at h1
           obtain ⟨e, he⟩ : ∃ e, S[k]? = some e := ⟨_, List.getElem?_eq_getElem h1⟩
           have hfs : (S.take (k + 1)).foldl (stepR g) o = stepR g ((S.take k).foldl (stepR g) o) e := by rw [List.take_add_one, he, Option.toList_some, List.foldl_append]; rfl
           obtain ⟨u, hu⟩ : ∃ u, u = (S.take k).foldl (stepR g) o := ⟨_, rfl⟩
           rw [← hu] at hk1 hk2 hfs ⊢
           simp only [method_specs_simp, seval, hV, hRow, he, encEv]
           refine ⟨by omega, by omega, by kernel_rfl, ?_⟩
           have hGS : GS g u := ⟨h.hx, h.srt, by omega, hk1⟩
           refine clY.conF (c_allowed g u e hGS) (by simp only [method_specs_simp, encGr, encEv]) (by simp only [method_specs_simp, encGr, encEv]) trivial ?_
           simp only [method_specs_simp, seval, hV, hRow]
           refine gB_split (fun hal => ?_) (fun hal => ?_)
           · have hst : stepR g u e = putI u (entE e) := by unfold stepR; rw [if_pos hal]
             rw [hst] at hfs
             have hput := put_same u (entE e) hk1
             have hpl := putI_len u (entE e)
             refine clY.newF (n119 u (entE e) (by omega)) (by simp only [method_specs_simp, encEnt, entE]) (by simp only [method_specs_simp, encEnt, entE]) trivial (flat1 ⟨rfl, flat_ents _⟩) ?_
             simp only [method_specs_simp, seval, hV, hRow]
             refine Again.mk (k + 1) [2] ⟨h1, by rw [hfs]; exact hput.2, by rw [hfs]; omega⟩ (Nat.sub_lt_sub_left h1 (Nat.lt_succ_self _)) ?_
             rw [hfs]
             simp only [mvcgen_simp, method_specs_simp, seval, hV, hRow, w1]
           · have hst : stepR g u e = u := by unfold stepR; rw [if_neg (by rw [hal]; decide)]
             rw [hst] at hfs
             refine Again.mk (k + 1) [0] ⟨h1, by rw [hfs]; exact hk1, by rw [hfs]; omega⟩ (Nat.sub_lt_sub_left h1 (Nat.lt_succ_self _)) ?_
             rw [hfs]
             simp only [mvcgen_simp, method_specs_simp, seval, hV, hRow, w1]
         · have hk3 : k = S.length := by simp only [decide_eq_false_iff_not, Bool.not_true, Int.ofNat_lt] at h1; omega
           rw [hk3, List.take_of_length_le (Nat.le_refl _)]
           refine CW.sound ?_
           simp only [method_specs_simp, seval, hV, hRow]
           refine LResY.mk [0] ?_
           simp only [mvcgen_simp, method_specs_simp, seval, hV, hRow]
theorem c_resolve (g : Gr) (x : Hs) (l : List (List Ent)) (h : GG g) (hl : SL g l) : Con P 56 [hV g x, .sl 1 (l.map encSS)] (.sl 3 ((resI g x.D l).map encEnt)) := by
 have h1 := (n_resolve (P := P) g x l h hl).con (by simp only [method_specs_simp])
 have e : convR [Ob.arr true 3 ((resI g x.D l).map encEnt)] (.ar 0 0 (resI g x.D l).length) = .sl 3 ((resI g x.D l).map encEnt) := by simp only [method_specs_simp, List.take_of_length_le, List.length_map, Nat.le_refl]
 rwa [e] at h1
end
end Go.Proofs.YtdldgbkdcpdbeaaGreat
end
