/- The states behind events; one event more in a history. Conditions: a right graph. The history of a right graph: its order, and that each state in it is one of the graph. Conditions: a right graph. The history of a right graph. Conditions: a right graph. The abstract machine: drawn regions in which looks at what nobody writes any more may come late. The abstract machine: what an array holds is told anew, where it names what is frozen. The reference's order of trial. Conditions: a right graph. The reference's merging of states, and that it comes to the program's. Conditions: a right graph, states of it. The reference's merging of states, walked. Conditions: a right graph, states of it. All of a right graph, as the reference reckons it. Conditions: a right graph. Why an event is refused: both sides, and the law. Conditions: sizes that fit a machine. States ahead of and behind an event: both sides, and the laws. Conditions: sizes that fit a machine. Lists of numbers: striking those that answer a closure. Conditions: lengths that fit a machine. The ends of a history, as the program finds them. Conditions: a right graph. The ends and the current state: the reference, and both laws. Conditions: sizes that fit a machine. Of a new row that is handed back in part, the part alone is told. No conditions. The ends and the current state: both laws. Conditions: sizes that fit a machine. Lists of states in new memory: made, compared, marked. No conditions but lengths and bounds of numbers. M -/
import Derived.Test.YtdldgbkdcpdbeaaGreatRows
import Derived.WalkKit
import Derived.ProofKit
import Derived.OpenShut
import Derived.ShutString
import Derived.ChangeOld
import Derived.Below
import Derived.SizedLaws
import Derived.Test.YtdldgbkdcpdbeaaGreatQ5
set_option linter.unusedSimpArgs false
set_option linter.unusedVariables false
set_option maxRecDepth 10000
section
namespace Go.Proofs.YtdldgbkdcpdbeaaGreat
open Go.Pm
open Go.Gm (Ev Gr)
def stsA (A : List (Int × Option (List Ent))) (ids : List Int) : List (List Ent) := ids.map fun id => (lookD A id none).getD []
def hL (g : Gr) (x : Hs) : V := .fptr [.int .i64 g.room, .sl 9 (g.events.map encEv), .sl 9 (g.parked.map encEv), .fmap (mpI .i64 (V.int .i64) x.D).1 (mpI .i64 (V.int .i64) x.D).2, .map 0, .map 1, .map 2] 0
def obN (l : List (Int × Int)) : Ob := .mp true (mpI .i64 (V.int .i64) l).1 (mpI .i64 (V.int .i64) l).2
def obS (l : List (Int × Option (List Ent))) : Ob := .mp true (mpI .i64 fS l).1 (mpI .i64 fS l).2
def hM (x : Hs) : List Ob := [obS x.B, obS x.A, obN x.R]
@[mvcgen_simp, method_specs_simp] theorem plc_mp {o : Nat} {lv : Bool} {ks vs : List V} {m : List Ob} : plc o (.mp lv ks vs :: m) = .map o :: plc (o + 1) m := nr rfl
@[mvcgen_simp, method_specs_simp] theorem oren_mp {ρ : Nat → Nat} {lv : Bool} {ks vs : List V} : Ob.ren ρ (.mp lv ks vs) = .mp lv (rens ρ ks) (rens ρ vs) := nr rfl
theorem conv_mapL {m : List Ob} {q : Nat} {ks vs : List V} (h : m[q]? = some (.mp true ks vs)) : conv m (.map q) = .map q := by
 unfold conv
 rw [h]
section
variable {P : Program} [Is P]
theorem n_states (g : Gr) (x : Hs) (ids : List Int) (hl : ids.length ≤ 60) (hi : ∀ id ∈ ids, (lookD x.A id none).isSome = true) : LCon P 104 [hL g x, .sl 1 (ids.map encI)] (hM x) (.sl 1 ((stsA x.A ids).map encSS)) (hM x) := by
 refine LCon.ofS (n := 26) (rs := [.tmp 4]) (Is.fn Tryz.func104) rfl (Is.call Tryz.call104) Tryz.results104 Tryz.ntmps104 ?_
 refine SW.seq (CW.sound ?_)
 simp only [method_specs_simp, seval, hL, hM, obN, obS]
 refine SW.seq (CW.sound ?_)
 simp only [method_specs_simp, seval, hL, hM, obN, obS]
 refine SW.seq (CW.sound ?_)
 simp only [method_specs_simp, seval, hL, hM, obN, obS]
 refine SW.while (A := Nat) (fun k => ⟨pad 26 [hL g x, .junk, .junk, .junk, .nil, .ar 3 0 (stsA x.A (ids.take k)).length, .junk, .junk, .junk, .sl 1 (ids.map encI), .int .i64 ids.length, .int .i64 k], hM x ++ [.arr true 1 ((stsA x.A (ids.take k)).map encSS)], plc 0 (hM x)⟩) (fun k => ids.length - k) (fun k => k ≤ ids.length) 0 [0, 1, 2, 3] (Nat.zero_le _) ?_ ?_
 · have h0 : stsA x.A (ids.take 0) = [] := rfl
   rw [h0]
   simp only [mvcgen_simp, method_specs_simp, seval, hL, hM, obN, obS]
 · intro k hk
   have hln : (stsA x.A (ids.take k)).length = k := by unfold stsA; rw [List.length_map, List.length_take]; omega
   have w1 : IntKind.i64.wrap ((k : Int) + 1) = ((k + 1 : Nat) : Int) := wadd1 k (by omega)
   refine CW.sound ?_
   simp only [method_specs_simp, seval, hL, hM, obN, obS]
   refine gB_split (fun h => ?_) (fun h => ?_)
   · simp only [decide_eq_true_eq, Int.ofNat_lt] at h
     obtain ⟨id, hid⟩ : ∃ id, ids[k]? = some id := ⟨_, List.getElem?_eq_getElem h⟩
     obtain ⟨s, hs⟩ := Option.isSome_iff_exists.1 (hi id (List.mem_of_getElem? hid))
     have hnx : stsA x.A (ids.take (k + 1)) = stsA x.A (ids.take k) ++ [s] := by unfold stsA; rw [List.take_add_one, hid, Option.toList_some, List.map_append, List.map_singleton, hs]; rfl
     have e1 : (stsA x.A (ids.take k)).map encSS ++ [[V.sl 3 (s.map encEnt)]] = (stsA x.A (ids.take (k + 1))).map encSS := by rw [hnx, List.map_append]; rfl
     have e2 : (stsA x.A (ids.take k)).length + 1 = (stsA x.A (ids.take (k + 1))).length := by rw [hnx, List.length_append]; rfl
     simp only [method_specs_simp, seval, hL, hM, obN, obS, hid, encI]
     refine ⟨by omega, by omega, ?_⟩
     refine lkY.ints fS x.A none rfl (by simp only [method_specs_simp, fS]) ?_
     rw [hs]
     simp only [method_specs_simp, seval, hL, hM, obN, obS, fS]
     refine ⟨by omega, by omega, ?_⟩
     rw [e1, e2]
     refine Again.mk (k + 1) [0, 1, 2, 5] h (Nat.sub_lt_sub_left h (Nat.lt_succ_self _)) ?_
     simp only [mvcgen_simp, method_specs_simp, seval, hL, hM, obN, obS, w1]
   · have hk2 : k = ids.length := by simp only [decide_eq_false_iff_not, Bool.not_true, Int.ofNat_lt] at h; omega
     have htk : List.take (stsA x.A ids).length ((stsA x.A ids).map encSS) = (stsA x.A ids).map encSS := List.take_of_length_le (by rw [List.length_map]; exact Nat.le_refl _)
     rw [hk2, List.take_of_length_le (Nat.le_refl _)]
     refine SW.freeze [3] ?_
     simp only [mvcgen_simp, method_specs_simp, seval, hL, hM, obN, obS, convs_r8j, conv_junkj, htk]
     refine CW.sound ?_
     simp only [method_specs_simp, seval, hL, hM, obN, obS]
     refine LResY.mk [0, 1, 2] ?_
     rw [conv_mapL (q := 0) rfl, conv_mapL (q := 1) rfl, conv_mapL (q := 2) rfl]
     simp only [mvcgen_simp, method_specs_simp, seval, hL, hM, obN, obS, htk]
end
def codeH (g : Gr) (s : List Ent) (e : Ev) : Int := if allowedE g s e == 0 && (e.kind == 8 && !aheadE g e.key e) then 6 else allowedE g s e
def behH (g : Gr) (s : List Ent) (e : Ev) : List Ent := if codeH g s e == 0 && decide (e.kind ≤ 6) then putI s (entE e) else s
def addH (g : Gr) (x : Hs) (e : Ev) : Hs :=
 ⟨x.D, putK x.B e.id (some (resI g x.D (stsA x.A e.prev))), putK x.A e.id (some (behH g (resI g x.D (stsA x.A e.prev)) e)), putK x.R e.id (codeH g (resI g x.D (stsA x.A e.prev)) e)⟩
theorem stepR_ok {g : Gr} : ∀ (L : List Ev) {u : List Ent}, u.Pairwise ltE → (L.foldl (stepR g) u).Pairwise ltE ∧ (L.foldl (stepR g) u).length ≤ u.length + L.length
 | [], u, h => ⟨h, Nat.le_refl _⟩
 | e :: L, u, h => by
   have h1 : (stepR g u e).Pairwise ltE ∧ (stepR g u e).length ≤ u.length + 1 := by
     unfold stepR
     split
     · exact ⟨(put_same u (entE e) h).2, putI_len u (entE e)⟩
     · exact ⟨h, Nat.le_succ _⟩
   obtain ⟨h2, h3⟩ := stepR_ok L h1.1
   refine ⟨h2, ?_⟩
   simp only [List.foldl_cons, List.length_cons]
   omega
theorem resI_ok {g : Gr} {D : List (Int × Int)} {l : List (List Ent)} (hl : SL g l) : (resI g D l).Pairwise ltE ∧ (resI g D l).length ≤ 40000 := by
 have hos : (com l).Pairwise ltE ∧ (com l).length ≤ 400 := by
   cases l with
   | nil => exact ⟨List.Pairwise.nil, Nat.zero_le _⟩
   | cons s l =>
     refine ⟨(hl.srt s List.mem_cons_self).sublist List.filter_sublist, ?_⟩
     have h1 := hl.len s List.mem_cons_self
     have h2 := List.length_filter_le (fun x => !missS (s :: l) x) s
     show (s.filter fun x => !missS (s :: l) x).length ≤ 400
     omega
 obtain ⟨h1, h2⟩ := stepR_ok (g := g) (ordR D (othE g l)) hos.1
 have h3 : (ordR D (othE g l)).length = (othE g l).length := (List.mergeSort_perm _ _).length_eq
 have h4 := oth_bound hl (idsM (com l)) l.length (s := []) (Nat.zero_le _) 0
 rw [preL_all] at h4
 have h5 : (othE g l).length = (othI (idsM (com l)) l.flatten).length := List.length_map _
 refine ⟨h1, ?_⟩
 unfold resI
 omega
theorem hL_le (g : Gr) (x : Hs) : VLe (hL g x) (hV g x) := VLe.fptr (.cons (VLe.refl _) (.cons (VLe.refl _) (.cons (VLe.refl _) (.cons (VLe.refl _) (.cons (VLe.junk _) (.cons (VLe.junk _) (.cons (VLe.junk _) .nil)))))))
section
variable {P : Program} [Is P]
theorem n_add (g : Gr) (x : Hs) (e : Ev) (h : GG g) (he : e ∈ g.events) (hi : ∀ id ∈ e.prev, (lookD x.A id none).isSome = true) (hsl : SL g (stsA x.A e.prev)) : LCon P 78 [hL g x, .agg (encEv e)] (hM x) (.tup []) (hM (addH g x e)) := by
 have h4 := h.four e he
 refine LCon.ofS (n := 86) (rs := []) (Is.fn Tryz.func78) rfl (Is.call Tryz.call78) Tryz.results78 Tryz.ntmps78 ?_
 refine SW.seq (CW.sound ?_)
 simp only [method_specs_simp, seval, hL, hM, obN, obS, encEv]
 refine SW.seq (CW.sound ?_)
 simp only [method_specs_simp, seval, hL, hM, obN, obS, encEv]
 refine clY.live [0, 1, 2] [] (n_states g x e.prev (by omega) hi) ?_ (by simp [hM]) ?_
 · simp only [mvcgen_simp, method_specs_simp, seval, hL, hM, obN, obS, encEv]
 simp only [method_specs_simp, seval, hL, hM, obN, obS, encEv]
 refine clY.conW (xs' := [hV g x, .sl 1 ((stsA x.A e.prev).map encSS)]) (c_resolve g x (stsA x.A e.prev) h hsl) (VLes.cons (hL_le g x) (VLes.same VLes.nil)) ⟨hRow_ref _ g x, of_eq_true (encSS_refs _ _), trivial⟩ ?_
 simp only [method_specs_simp, seval, hL, hM, obN, obS, encEv, oren_mp]
 refine SW.seq (CW.sound ?_)
 simp only [method_specs_simp, seval, hL, hM, obN, obS, encEv]
 refine ⟨by kernel_rfl, ?_⟩
 obtain ⟨hr1, hr2⟩ := resI_ok (g := g) (D := x.D) hsl
 obtain ⟨s, hs⟩ : ∃ s, s = resI g x.D (stsA x.A e.prev) := ⟨_, rfl⟩
 have hadd : addH g x e = ⟨x.D, putK x.B e.id (some s), putK x.A e.id (some (behH g s e)), putK x.R e.id (codeH g s e)⟩ := by rw [hs]; rfl
 rw [hadd]
 rw [← hs] at hr1 hr2 ⊢
 have hGS : GS g s := ⟨h.hx, h.srt, by omega, hr1⟩
 refine clY.con (c_allowed g s e hGS) (by simp only [method_specs_simp, encGr, encEv]) ?_
 simp only [method_specs_simp, seval, hL, hM, obN, obS, encEv]
 refine sw_meet ⟨pad 86 [hL g x, .junk, .junk, .ptr 3 0, .sl 3 (s.map encEnt), .int .i64 (codeH g s e)], [obS x.B, obS x.A, obN x.R, .box true (encEv e)], plc 0 (hM x)⟩ ?_ ?_
 · refine CW.sound ?_
   simp only [method_specs_simp, seval, hL, hM, obN, obS, encEv]
   refine ⟨by kernel_rfl, ?_⟩
   refine gB_split (fun k1 => ?_) (fun k1 => ?_)
   · refine gB_split (fun k2 => ?_) (fun k2 => ?_)
     · refine clY.con (c_ahead g e.key e h he) (by simp only [method_specs_simp, encGr, encEv]) ?_
       cases k3 : aheadE g e.key e with
       | true =>
         have hc : codeH g s e = allowedE g s e := by unfold codeH; rw [k3]; simp
         simp only [method_specs_simp, seval, hL, hM, obN, obS, encEv]
         refine again_meet [0, 1, 2, 3] ?_
         rw [hc]
         simp only [mvcgen_simp, method_specs_simp, seval, hL, hM, obN, obS, encEv]
       | false =>
         have hc : codeH g s e = 6 := by unfold codeH; rw [k3, k1, k2]; rfl
         simp only [method_specs_simp, seval, hL, hM, obN, obS, encEv]
         refine again_meet [0, 1, 2, 3] ?_
         rw [hc]
         simp only [mvcgen_simp, method_specs_simp, seval, hL, hM, obN, obS, encEv]
     · have hc : codeH g s e = allowedE g s e := by unfold codeH; rw [k2]; simp
       refine again_meet [0, 1, 2, 3] ?_
       rw [hc]
       simp only [mvcgen_simp, method_specs_simp, seval, hL, hM, obN, obS, encEv]
   · have hc : codeH g s e = allowedE g s e := by unfold codeH; rw [k1]; simp
     refine again_meet [0, 1, 2, 3] ?_
     rw [hc]
     simp only [mvcgen_simp, method_specs_simp, seval, hL, hM, obN, obS, encEv]
 refine SW.seq (CW.sound ?_)
 simp only [method_specs_simp, seval, hL, hM, obN, obS, encEv]
 refine ⟨by kernel_rfl, ?_⟩
 refine meY.ints fS x.B none rfl (by simp only [method_specs_simp, fS]) ?_
 simp only [method_specs_simp, seval, hL, hM, obN, obS, encEv]
 refine esY.ints fS (putK x.B e.id (lookD x.B e.id none)) (some s) (k := e.id) rfl (posK_putK _ _ _) ?_
 rw [putK_putK]
 simp only [method_specs_simp, seval, hL, hM, obN, obS, encEv]
 refine meY.ints fS x.A none rfl (by simp only [method_specs_simp, fS]) ?_
 simp only [method_specs_simp, seval, hL, hM, obN, obS, encEv]
 refine esY.ints fS (putK x.A e.id (lookD x.A e.id none)) (some s) (k := e.id) rfl (posK_putK _ _ _) ?_
 rw [putK_putK]
 simp only [method_specs_simp, seval, hL, hM, obN, obS, encEv]
 refine meY.ints (V.int .i64) x.R 0 rfl (by simp only [method_specs_simp]) ?_
 simp only [method_specs_simp, seval, hL, hM, obN, obS, encEv]
 refine esY.ints (V.int .i64) (putK x.R e.id (lookD x.R e.id 0)) (codeH g s e) (k := e.id) rfl (posK_putK _ _ _) ?_
 rw [putK_putK]
 simp only [method_specs_simp, seval, hL, hM, obN, obS, encEv]
 refine CW.sound ?_
 simp only [method_specs_simp, seval, hL, hM, obN, obS, encEv]
 have hend : ∀ b : Bool, (codeH g s e == 0 && decide (e.kind ≤ 6)) = b → behH g s e = if b then putI s (entE e) else s := fun b hb => by unfold behH; rw [hb]
 refine gB_split (fun k1 => ?_) (fun k1 => ?_)
 · refine gB_split (fun k2 => ?_) (fun k2 => ?_)
   · have hb := hend true (by rw [k1, k2]; rfl)
     rw [if_pos rfl] at hb
     refine ⟨by kernel_rfl, ?_⟩
     refine clY.con (c_put s (entE e) (by omega)) (by simp only [method_specs_simp, encEnt, entE]) ?_
     simp only [method_specs_simp, seval, hL, hM, obN, obS, encEv]
     refine muY.ints fS (putK x.A e.id (some s)) (some (putI s (entE e))) none rfl (by simp only [method_specs_simp, fS]) ?_
     rw [putK_putK, hb]
     simp only [method_specs_simp, seval, hL, hM, obN, obS, encEv]
     refine LResY.mk [0, 1, 2] ?_
     simp only [mvcgen_simp, method_specs_simp, seval, hL, hM, obN, obS, encEv]
   · have hb := hend false (by rw [k1, k2]; rfl)
     rw [if_neg (by decide)] at hb
     rw [hb]
     refine LResY.mk [0, 1, 2] ?_
     simp only [mvcgen_simp, method_specs_simp, seval, hL, hM, obN, obS, encEv]
 · have hb := hend false (by rw [k1]; rfl)
   rw [if_neg (by decide)] at hb
   rw [hb]
   refine LResY.mk [0, 1, 2] ?_
   simp only [mvcgen_simp, method_specs_simp, seval, hL, hM, obN, obS, encEv]
end
end Go.Proofs.YtdldgbkdcpdbeaaGreat
end

section
namespace Go.Proofs.YtdldgbkdcpdbeaaGreat
open Go.Pm
open Go.Gm (Ev Gr LtD ltD StD srtD)
theorem lookD_ne {β : Type} : ∀ (l : List (Int × β)) (k k' : Int) (v d : β), k' ≠ k → lookD (putK l k v) k' d = lookD l k' d
 | [], k, k', v, d, h => by simp [putK, lookD, h]
 | p :: l, k, k', v, d, h => by
   simp only [putK]
   cases hb : k == p.1 with
   | true =>
     have e : k = p.1 := by simpa using hb
     have h2 : (k' == p.1) = false := by rw [← e]; simpa using h
     simp only [if_true, lookD, List.find?_cons, h2]
   | false =>
     have ih := lookD_ne l k k' v d h
     simp only [lookD] at ih
     simp only [Bool.false_eq_true, if_false, lookD, List.find?_cons]
     cases k' == p.1
     · exact ih
     · rfl
theorem lookD_put {β : Type} (l : List (Int × β)) (k k' : Int) (v d : β) : lookD (putK l k v) k' d = if k' = k then v else lookD l k' d := by
 split
 · rename_i h; rw [h]; exact lookD_putK l k v d
 · rename_i h; exact lookD_ne l k k' v d h
theorem putI_mem {xs : List Ent} {x y : Ent} (h : y ∈ putI xs x) : y ∈ xs ∨ y = x := by
 unfold putI at h
 split at h
 · split at h
   · rcases List.mem_append.1 h with h | h
     · exact .inl (List.mem_of_mem_take h)
     · exact .inl (List.mem_of_mem_drop h)
   · exact .inl h
 · split at h
   · exact List.mem_or_eq_of_mem_set h
   · rcases List.mem_append.1 h with h | h
     · exact .inl (List.mem_of_mem_take h)
     · rcases List.mem_cons.1 h with h | h
       · exact .inr h
       · exact .inl (List.mem_of_mem_drop h)
theorem entOf_iff {g : Gr} {x : Ent} (h : GG g) : entOf g x = true ↔ ∃ e ∈ g.events, entE e = x := by
 unfold entOf
 cases hh : atE g.events x.id with
 | none =>
   simp only [Option.isSome_none, Bool.false_and, Bool.false_eq_true, false_iff, not_exists, not_and]
   rintro e he rfl
   have := at_mem h.srt he
   rw [show (entE e).id = e.id from rfl] at hh
   rw [hh] at this; cases this
 | some e =>
   have h1 := List.mem_of_find?_eq_some hh
   have h2 : e.id = x.id := by have := List.find?_some hh; simpa using this
   simp only [Option.isSome_some, Bool.true_and, Option.getD_some, Bool.and_eq_true, beq_iff_eq]
   constructor
   · rintro ⟨h3, h4⟩
     refine ⟨e, h1, ?_⟩
     obtain ⟨a, b, c⟩ := x
     simp only at h2 h3 h4
     unfold entE
     rw [h2, h3, h4]
   · rintro ⟨e', he', rfl⟩
     have h3 := at_mem h.srt he'
     rw [show (entE e').id = e'.id from rfl, h3] at hh
     injection hh with hh
     subst hh
     exact ⟨rfl, rfl⟩
structure SG (g : Gr) (s : List Ent) : Prop where
 srt : s.Pairwise ltE
 has : ∀ x ∈ s, entOf g x = true
theorem ltE_ne {x y : Ent} (h : ltE x y) : x ≠ y := fun e => by subst e; unfold ltE at h; omega
theorem SG.ids {g : Gr} {s : List Ent} (h : GG g) (hs : SG g s) : (s.map (·.id)).Nodup := by
 refine List.pairwise_map.2 ?_
 refine List.Pairwise.imp_of_mem (fun {x y} hx hy hlt => ?_) hs.srt
 intro e
 obtain ⟨e1, he1, h1⟩ := (entOf_iff h).1 (hs.has x hx)
 obtain ⟨e2, he2, h2⟩ := (entOf_iff h).1 (hs.has y hy)
 have hid : e1.id = e2.id := by
   have a1 : (entE e1).id = x.id := by rw [h1]
   have a2 : (entE e2).id = y.id := by rw [h2]
   exact a1.trans (e.trans a2.symm)
 have := at_mem h.srt he1
 rw [hid, at_mem h.srt he2] at this
 injection this with this
 subst this
 exact ltE_ne hlt (h1.symm.trans h2)
theorem SG.len {g : Gr} {s : List Ent} (h : GG g) (hs : SG g s) : s.length ≤ 60 := by
 have h1 := nodup_len (SG.ids h hs) (m := g.events.map (·.id)) (fun z hz => by
   obtain ⟨x, hx, rfl⟩ := List.mem_map.1 hz
   obtain ⟨e, he, h1⟩ := (entOf_iff h).1 (hs.has x hx)
   exact List.mem_map.2 ⟨e, he, by rw [← h1]; rfl⟩)
 rw [List.length_map, List.length_map] at h1
 have := h.n
 omega
theorem SG.nil (g : Gr) : SG g [] := ⟨List.Pairwise.nil, fun x hx => by cases hx⟩
theorem SG.put {g : Gr} {s : List Ent} (h : GG g) (hs : SG g s) {e : Ev} (he : e ∈ g.events) : SG g (putI s (entE e)) :=
 ⟨(put_same s (entE e) hs.srt).2, fun y hy => (putI_mem hy).elim (hs.has y) fun e1 => by rw [e1]; exact (entOf_iff h).2 ⟨e, he, rfl⟩⟩
theorem SL.of {g : Gr} {l : List (List Ent)} (h : GG g) (hn : l.length ≤ 60) (hs : ∀ s ∈ l, SG g s) : SL g l :=
 ⟨hn, fun s hm => Nat.le_trans (SG.len h (hs s hm)) (by omega), fun s hm => (hs s hm).srt, fun s hm => (hs s hm).has⟩
theorem othE_in {g : Gr} {l : List (List Ent)} (hl : ∀ s ∈ l, ∀ x ∈ s, entOf g x = true) : ∀ e ∈ othE g l, e ∈ g.events := fun e he => by
 obtain ⟨z, hz, rfl⟩ := List.mem_map.1 he
 obtain ⟨_, x, hx, rfl⟩ := (othI_spec l.flatten (idsM (com l))).2 z hz
 obtain ⟨s, hs, hxs⟩ := List.mem_flatten.1 hx
 have h1 := hl s hs x hxs
 unfold evOf
 unfold entOf at h1
 cases hh : atE g.events x.id with
 | none => rw [hh] at h1; simp at h1
 | some e => exact List.mem_of_find?_eq_some hh
theorem foldR_SG {g : Gr} (h : GG g) : ∀ (L : List Ev) {u : List Ent}, (∀ e ∈ L, e ∈ g.events) → SG g u → SG g (L.foldl (stepR g) u)
 | [], u, _, hu => hu
 | e :: L, u, hL, hu => by
   rw [List.foldl_cons]
   refine foldR_SG h L (fun e he => hL e (List.mem_cons_of_mem _ he)) ?_
   unfold stepR
   split
   · exact SG.put h hu (hL e List.mem_cons_self)
   · exact hu
theorem resI_SG {g : Gr} {D : List (Int × Int)} {l : List (List Ent)} (h : GG g) (hs : ∀ s ∈ l, SG g s) : SG g (resI g D l) := by
 have hc : SG g (com l) := by
   cases l with
   | nil => exact SG.nil g
   | cons s l =>
     have h1 := hs s List.mem_cons_self
     exact ⟨h1.srt.sublist List.filter_sublist, fun x hx => h1.has x (List.mem_filter.1 hx).1⟩
 exact foldR_SG h _ (fun e he => othE_in (fun s hm => (hs s hm).has) e ((List.mergeSort_perm _ _).subset he)) hc
def evsO (g : Gr) : List Ev := (orderE g.events).map (evOf g)
def hsN (g : Gr) (D : List (Int × Int)) (L : List Ev) : Hs := L.foldl (addH g) ⟨D, [], [], []⟩
theorem hsN_snoc (g : Gr) (D : List (Int × Int)) (L : List Ev) (e : Ev) : hsN g D (L ++ [e]) = addH g (hsN g D L) e := by unfold hsN; rw [List.foldl_append]; rfl
theorem hsN_D (g : Gr) (D : List (Int × Int)) : ∀ (L : List Ev) (x : Hs), (L.foldl (addH g) x).D = x.D
 | [], x => rfl
 | e :: L, x => by rw [List.foldl_cons, hsN_D g D L]; rfl
theorem order_place {g : Gr} (h : GG g) {i : Nat} {id : Int} (hi : (orderE g.events)[i]? = some id) : ∃ (k : Nat) (e : Ev), (srtD (dpl (Gm.depthsE g.events)) (rangeI g.events.length))[i]? = some (k : Int) ∧ g.events[k]? = some e ∧ e.id = id ∧ evOf g id = e ∧ e ∈ g.events := by
 unfold orderE at hi
 rw [List.getElem?_map] at hi
 obtain ⟨x, hx, rfl⟩ := Option.map_eq_some_iff.1 hi
 obtain ⟨k, hk, rfl⟩ := rangeI_mem.1 ((Gm.srtD_perm _ _).subset (List.mem_of_getElem? hx))
 obtain ⟨e, he⟩ : ∃ e, g.events[k]? = some e := ⟨_, List.getElem?_eq_getElem hk⟩
 have hid : idAtP g.events (k : Int) = e.id := by unfold idAtP; rw [Int.toNat_natCast, he]
 have hm := List.mem_of_getElem? he
 refine ⟨k, e, hx, he, hid.symm, ?_, hm⟩
 rw [hid]
 unfold evOf
 rw [at_mem h.srt hm]; rfl
theorem evsO_len (g : Gr) : (evsO g).length = g.events.length := by unfold evsO; rw [List.length_map, orderE_len]
theorem order_prev {g : Gr} (h : GG g) {i : Nat} {e : Ev} (hi : (evsO g)[i]? = some e) : ∀ p ∈ e.prev, p ∈ (orderE g.events).take i := by
 intro p hp
 unfold evsO at hi
 rw [List.getElem?_map] at hi
 obtain ⟨id, hid, he⟩ := Option.map_eq_some_iff.1 hi
 obtain ⟨k, e', hk, hke, _, h1, h2⟩ := order_place h hid
 rw [h1] at he
 subst he
 have hin := h.ain e' h2
 rw [Gm.allIn, List.all_eq_true] at hin
 have hpi := hin p hp
 obtain ⟨ep, hep, hepi⟩ := Gm.fid_get hpi
 have hpl := Gm.fid_lt hpi
 have hdl := (Gm.depths_ok g.events).len
 have hkl := (List.getElem?_eq_some_iff.1 hke).1
 have hdk : 0 < (Gm.depthsE g.events).getD k 0 := by
   rw [List.getD_eq_getElem?_getD, List.getElem?_eq_getElem (by omega)]
   have := h.pos _ (List.getElem_mem (l := Gm.depthsE g.events) (n := k) (by omega))
   simp only [Option.getD_some]
   omega
 obtain ⟨_, hlt⟩ := Gm.depths_ltP g.events k e' hke hdk p hp
 have hm : ((Gm.fidE g.events p : Nat) : Int) ∈ srtD (dpl (Gm.depthsE g.events)) (rangeI g.events.length) := (Gm.srtD_perm _ _).mem_iff.2 (rangeI_mem.2 ⟨_, hpl, rfl⟩)
 obtain ⟨j, hj⟩ := List.getElem?_of_mem hm
 have hLt : LtD (dpl (Gm.depthsE g.events)) ((Gm.fidE g.events p : Nat) : Int) (k : Int) := by
   rw [Gm.ltD_iff]
   refine .inl ?_
   unfold dpl
   rw [Int.toNat_natCast, Int.toNat_natCast]
   exact hlt
 have hji : j < i := by
   rcases Nat.lt_trichotomy j i with h3 | h3 | h3
   · exact h3
   · exfalso
     subst h3
     rw [hk] at hj
     injection hj with hj
     rw [hj] at hLt
     exact (Gm.ltD_str _).irr _ hLt
   · exfalso
     have h4 := Gm.pw_get (Gm.srtD_sorted (Gm.StD.nodup (rangeI_std (dpl (Gm.depthsE g.events)) g.events.length))) h3 hk hj
     exact (Gm.ltD_str _).irr _ ((Gm.ltD_str _).tr _ _ _ hLt h4)
 refine List.mem_of_getElem? (i := j) ?_
 rw [List.getElem?_take_of_lt hji]
 unfold orderE
 rw [List.getElem?_map, hj]
 simp only [Option.map_some, idAtP, Int.toNat_natCast, hep, hepi]
structure HI (g : Gr) (ids : List Int) (x : Hs) : Prop where
 A : ∀ id ∈ ids, ∃ s, lookD x.A id none = some s ∧ SG g s
 B : ∀ id ∈ ids, ∃ s, lookD x.B id none = some s ∧ SG g s
theorem HI.sts {g : Gr} {ids : List Int} {x : Hs} (h : HI g ids x) {l : List Int} (hl : ∀ p ∈ l, p ∈ ids) : (∀ p ∈ l, (lookD x.A p none).isSome = true) ∧ ∀ s ∈ stsA x.A l, SG g s := by
 refine ⟨fun p hp => ?_, fun s hs => ?_⟩
 · obtain ⟨s, h1, _⟩ := h.A p (hl p hp)
   rw [h1]; rfl
 · obtain ⟨p, hp, rfl⟩ := List.mem_map.1 hs
   obtain ⟨s, h1, h2⟩ := h.A p (hl p hp)
   rw [h1]; exact h2
theorem stsA_len (A : List (Int × Option (List Ent))) (l : List Int) : (stsA A l).length = l.length := List.length_map _
theorem HI.add {g : Gr} {ids : List Int} {x : Hs} (hg : GG g) (h : HI g ids x) {e : Ev} (he : e ∈ g.events) (hp : ∀ p ∈ e.prev, p ∈ ids) : HI g (ids ++ [e.id]) (addH g x e) := by
 obtain ⟨h1, h2⟩ := h.sts hp
 have hr : SG g (resI g x.D (stsA x.A e.prev)) := resI_SG hg h2
 have hb : SG g (behH g (resI g x.D (stsA x.A e.prev)) e) := by
   unfold behH
   split
   · exact SG.put hg hr he
   · exact hr
 refine ⟨fun id hid => ?_, fun id hid => ?_⟩
 · show ∃ s, lookD (putK x.A e.id (some (behH g (resI g x.D (stsA x.A e.prev)) e))) id none = some s ∧ SG g s
   rw [lookD_put]
   split
   · exact ⟨_, rfl, hb⟩
   · rename_i hne
     exact h.A id ((List.mem_append.1 hid).resolve_right (by simpa using hne))
 · show ∃ s, lookD (putK x.B e.id (some (resI g x.D (stsA x.A e.prev)))) id none = some s ∧ SG g s
   rw [lookD_put]
   split
   · exact ⟨_, rfl, hr⟩
   · rename_i hne
     exact h.B id ((List.mem_append.1 hid).resolve_right (by simpa using hne))
theorem HI.at_ {g : Gr} (hg : GG g) (D : List (Int × Int)) : ∀ i, i ≤ g.events.length → HI g ((orderE g.events).take i) (hsN g D ((evsO g).take i))
 | 0, _ => ⟨fun id h => by simp at h, fun id h => by simp at h⟩
 | i + 1, hi => by
   have ih := HI.at_ hg D i (by omega)
   obtain ⟨id, hid⟩ : ∃ id, (orderE g.events)[i]? = some id := ⟨_, List.getElem?_eq_getElem (by rw [orderE_len]; omega)⟩
   obtain ⟨k, e, hk, hke, h0, h1, h2⟩ := order_place hg hid
   have hev : (evsO g)[i]? = some e := by unfold evsO; rw [List.getElem?_map, hid, Option.map_some, h1]
   rw [List.take_add_one, List.take_add_one, hid, hev, Option.toList_some, Option.toList_some, hsN_snoc, ← h0]
   exact ih.add hg h2 (order_prev hg hev)
end Go.Proofs.YtdldgbkdcpdbeaaGreat
end

section
namespace Go.Proofs.YtdldgbkdcpdbeaaGreat
open Go.Pm
open Go.Gm (Ev Gr)
def deepV : Nat → List Ob → V → V
 | 0, _, x => x
 | n + 1, m, .fptr cs off => .fptr (cs.map (deepV n m)) off
 | _ + 1, m, x => conv m x
theorem RC_map {c : Cx} {b : Nat} {f : V → V} (hf : ∀ x v, RV c x v → RV c (f x) v) : ∀ {cs : List V} {o : Nat}, RC c b o cs → RC c b o (cs.map f)
 | [], _, _ => trivial
 | _ :: _, _, ⟨⟨u, e, k⟩, k2⟩ => ⟨⟨u, e, hf _ u k⟩, RC_map hf k2⟩
theorem deepV_sound {w : World} {Zo : Nat → Prop} {m : List Ob} {β : List Lc} (M : Mem w Zo m β) : ∀ (n : Nat) (x : V) (v : Value), RV (cx w Zo m β) x v → RV (cx w Zo m β) (deepV n m x) v
 | 0, x, v, h => h
 | n + 1, x, v, h => by
   have hc : ∀ y : V, RV (cx w Zo m β) y v → RV (cx w Zo m β) (conv m y) v := fun y hy => by
     obtain ⟨u, us, e, k, _⟩ := convs_sound M [y] [v] ⟨v, [], rfl, hy, rfl⟩
     injection e with e1 _
     rw [e1]; exact k
   cases x <;> first | exact hc _ h | skip
   obtain ⟨b, e, hf, k⟩ := h
   exact ⟨b, e, hf, RC_map (deepV_sound M n) k⟩
theorem RVs_map {c : Cx} {f : V → V} (hf : ∀ x v, RV c x v → RV c (f x) v) : ∀ {xs : List V} {us : List Value}, RVs c xs us → RVs c (xs.map f) us
 | [], _, h => h
 | _ :: _, _, ⟨u, us', e, h1, h2⟩ => ⟨u, us', e, hf _ u h1, RVs_map hf h2⟩
theorem sw_deep {P : Program} {c : Code} {st : St} {Q : Exit → St → Prop} (n : Nat) (h : Go.Pm.SW P c ⟨st.t.map (deepV n st.m), st.m, st.g⟩ Q) : Go.Pm.SW P c st Q := by
 intro w0 E Zo gh a w ⟨β, M, h1, h2, h3, h4, h5⟩
 exact h w0 E Zo gh a w ⟨β, M, h1, h2, h3, RVs_map (deepV_sound M n) h4, h5⟩
def mpFr (m : List Ob) (q : Nat) : Option (List V × List V) := match m[q]? with
 | some (.mp false ks vs) => some (ks, vs)
 | _ => none
@[mvcgen_simp, method_specs_simp] theorem mpFr_f {ks vs : List V} {m : List Ob} : mpFr (.mp false ks vs :: m) 0 = some (ks, vs) := nr rfl
@[mvcgen_simp, method_specs_simp] theorem mpFr_t {ks vs : List V} {m : List Ob} : mpFr (.mp true ks vs :: m) 0 = none := nr rfl
@[mvcgen_simp, method_specs_simp] theorem mpFr_s {ob : Ob} {m : List Ob} {q : Nat} : mpFr (ob :: m) (q + 1) = mpFr m q := by simp [mpFr]
def convM (q : Nat) : Option (List V × List V) → V
 | some p => .fmap p.1 p.2
 | none => .map q
@[mvcgen_simp, method_specs_simp] theorem convM_s {q : Nat} {ks vs : List V} : convM q (some (ks, vs)) = .fmap ks vs := nr rfl
@[mvcgen_simp, method_specs_simp] theorem convM_n {q : Nat} : convM q none = .map q := nr rfl
@[mvcgen_simp, method_specs_simp] theorem conv_mapF {m : List Ob} {q : Nat} : conv m (.map q) = convM q (mpFr m q) := by
 simp only [conv, mpFr]
 split <;> rename_i h
 · rw [h]; rfl
 · cases hm : m[q]? with
   | none => rfl
   | some ob =>
     cases ob with
     | mp lv ks vs =>
       cases lv
       · exact absurd hm (h _ _)
       · rfl
     | _ => rfl
@[mvcgen_simp, method_specs_simp] theorem still_mp {lv : Bool} {ks vs : List V} : (Ob.mp lv ks vs).still = .mp false ks vs := nr rfl
section
variable {n : Nat} {m : List Ob}
@[mvcgen_simp, method_specs_simp] theorem deep_fptr {cs : List V} {off : Nat} : deepV (n + 1) m (.fptr cs off) = .fptr (cs.map (deepV n m)) off := nr rfl
@[mvcgen_simp, method_specs_simp] theorem deep_junk : deepV (n + 1) m .junk = .junk := nr rfl
@[mvcgen_simp, method_specs_simp] theorem deep_int {k : IntKind} {x : Int} : deepV (n + 1) m (.int k x) = .int k x := nr rfl
@[mvcgen_simp, method_specs_simp] theorem deep_bool {b : Bool} : deepV (n + 1) m (.bool b) = .bool b := nr rfl
@[mvcgen_simp, method_specs_simp] theorem deep_sl {sz : Nat} {xs : List (List V)} : deepV (n + 1) m (.sl sz xs) = .sl sz xs := nr rfl
@[mvcgen_simp, method_specs_simp] theorem deep_map {q : Nat} : deepV (n + 1) m (.map q) = conv m (.map q) := nr rfl
@[mvcgen_simp, method_specs_simp] theorem deep_fmap {ks vs : List V} : deepV (n + 1) m (.fmap ks vs) = .fmap ks vs := nr rfl
end
theorem mpI_nil1 {β : Type} {kd : IntKind} {f : β → V} : (mpI kd f []).1 = [] := nr rfl
theorem mpI_nil2 {β : Type} {kd : IntKind} {f : β → V} : (mpI kd f []).2 = [] := nr rfl
theorem map_r8 {f : V → V} {a b c d e f' g h : V} {l : List V} : List.map f (r8 a b c d e f' g h l) = r8 (f a) (f b) (f c) (f d) (f e) (f f') (f g) (f h) (List.map f l) := rfl
def hF (g : Gr) (x : Hs) : V := .fptr [.int .i64 g.room, .sl 9 (g.events.map encEv), .sl 9 (g.parked.map encEv), .fmap (mpI .i64 (V.int .i64) x.D).1 (mpI .i64 (V.int .i64) x.D).2, .fmap (mpI .i64 fS x.B).1 (mpI .i64 fS x.B).2, .fmap (mpI .i64 fS x.A).1 (mpI .i64 fS x.A).2, .fmap (mpI .i64 (V.int .i64) x.R).1 (mpI .i64 (V.int .i64) x.R).2] 0
theorem hF_ref (ok : Nat → Prop) (g : Gr) (x : Hs) : Ref ok (hF g x) := by
 simp only [hF, Refs, Ref, encEv_refs, mpI_refs1, mpN_refs, mpS_refs, and_self]
def depM (evs : List Ev) (dl : List Int) (i : Nat) : List (Int × Int) := ((evs.zip dl).take i).foldl (fun m p => putK m p.1.id p.2) []
section
variable {P : Program} [Is P]
theorem c_order (g : Gr) (h : GG g) : Con P 76 [.agg (encGr g)] (.sl 1 ((orderE g.events).map encI)) := by
 have h1 := (n_order (P := P) g h.ok.1 h.srt h.ain).con (by rw [← orderE_len g.events]; simp only [method_specs_simp, List.take_of_length_le, List.length_map, Nat.le_refl])
 have e : convR [Ob.arr true 1 ((orderE g.events).map encI)] (.ar 0 0 g.events.length) = .sl 1 ((orderE g.events).map encI) := by
   rw [← orderE_len g.events]
   simp only [method_specs_simp, List.take_of_length_le, List.length_map, Nat.le_refl]
 rwa [e] at h1
theorem c_newHistory (g : Gr) (h : GG g) : Con P 42 [.agg (encGr g)] (hF g (hsN g (depM g.events (Gm.depthsE g.events) g.events.length) (evsO g))) := by
 refine Con.ofS (n := 61) (rs := [.tmp 2]) (Is.fn Tryz.func42) rfl (Is.call Tryz.call42) Tryz.results42 Tryz.ntmps42 (hF_ref _ g _) ?_
 refine SW.seq (CW.sound ?_)
 simp only [method_specs_simp, seval, encGr]
 refine SW.seq (CW.sound ?_)
 simp only [method_specs_simp, seval, encGr]
 refine SW.seq (CW.sound ?_)
 simp only [method_specs_simp, seval, encGr]
 refine clY.con (c_depths g h.ok.1 h.srt h.ain) (by simp only [method_specs_simp, encGr]) ?_
 obtain ⟨dl, hdl⟩ : ∃ dl, dl = Gm.depthsE g.events := ⟨_, rfl⟩
 have hdn : dl.length = g.events.length := by rw [hdl]; exact (Gm.depths_ok g.events).len
 rw [← hdl]
 simp only [method_specs_simp, seval, encGr]
 have h60 := h.n
 refine SW.seq (CW.sound ?_)
 simp only [method_specs_simp, seval, encGr]
 refine SW.while (A := Nat) (fun i => ⟨pad 61 [.junk, .ptr 0 0, .junk, .ptr 5 0, .sl 1 (dl.map encI), .junk, .junk, .junk, .junk, .junk, .junk, .junk, .junk, .junk, .junk, .junk, .junk, .junk, .junk, .junk, .junk, .junk, .junk, .junk, .junk, .sl 9 (g.events.map encEv), .int .i64 g.events.length, .int .i64 i], [.box true (encGr g), obN (depM g.events dl i), .mp true [] [], .mp true [] [], .mp true [] [], .box true [.int .i64 g.room, .sl 9 (g.events.map encEv), .sl 9 (g.parked.map encEv), .map 1, .map 2, .map 3, .map 4]], []⟩) (fun i => g.events.length - i) (fun i => i ≤ g.events.length) 0 [0, 1, 2, 3, 4, 5] (Nat.zero_le _) ?_ ?_
 · have h0 : obN (depM g.events dl 0) = .mp true [] [] := rfl
   rw [h0]
   simp only [mvcgen_simp, method_specs_simp, seval, encGr]
 · intro i hi
   have w1 : IntKind.i64.wrap ((i : Int) + 1) = ((i + 1 : Nat) : Int) := wadd1 i (by omega)
   refine CW.sound ?_
   simp only [method_specs_simp, seval, encGr, obN]
   refine gB_split (fun h1 => ?_) (fun h1 => ?_)
   · simp only [decide_eq_true_eq, Int.ofNat_lt] at h1
     obtain ⟨e, he⟩ : ∃ e, g.events[i]? = some e := ⟨_, List.getElem?_eq_getElem h1⟩
     obtain ⟨d, hd⟩ : ∃ d, dl[i]? = some d := ⟨_, List.getElem?_eq_getElem (by omega)⟩
     have hnx : depM g.events dl (i + 1) = putK (depM g.events dl i) e.id d := by
       have hz : (g.events.zip dl)[i]? = some (e, d) := by rw [List.getElem?_zip_eq_some]; exact ⟨he, hd⟩
       unfold depM
       rw [List.take_add_one, hz, Option.toList_some, List.foldl_append]; rfl
     simp only [method_specs_simp, seval, encGr, he, encEv]
     refine ⟨by omega, by omega, by kernel_rfl, ?_⟩
     simp only [method_specs_simp, seval, encGr, hd, encI]
     refine ⟨by omega, by omega, ?_⟩
     refine muY.ints (V.int .i64) (depM g.events dl i) d 0 rfl (by simp only [method_specs_simp]) ?_
     rw [← hnx]
     simp only [method_specs_simp, seval, encGr]
     refine Again.mk (i + 1) [0, 1, 2, 3, 4, 5] h1 (Nat.sub_lt_sub_left h1 (Nat.lt_succ_self _)) ?_
     simp only [mvcgen_simp, method_specs_simp, seval, encGr, w1, obN]
   · have hi2 : i = g.events.length := by simp only [decide_eq_false_iff_not, Bool.not_true, Int.ofNat_lt] at h1; omega
     obtain ⟨D, hD⟩ : ∃ D, D = depM g.events dl i := ⟨_, rfl⟩
     rw [← hD]
     refine SW.freeze [0, 1, 5] ?_
     simp only [mvcgen_simp, method_specs_simp, seval, encGr, convs_r8j, conv_junkj]
     refine sw_deep 2 ?_
     simp only [mvcgen_simp, method_specs_simp, seval, encGr, map_r8, List.map_cons, List.map_nil]
     refine SW.wk [2, 3, 4] (st' := ⟨pad 61 [.junk, .fptr (encGr g) 0, .junk, hL g ⟨D, [], [], []⟩], hM ⟨D, [], [], []⟩, []⟩) ?_ ?_
     · simp only [mvcgen_simp, method_specs_simp, seval, encGr, hL, hM, obN, obS, mpI_nil1, mpI_nil2]
     refine SW.seq (CW.sound ?_)
     simp only [method_specs_simp, seval, encGr]
     refine clY.con (c_order g h) (by simp only [method_specs_simp, encGr]) ?_
     simp only [method_specs_simp, seval, encGr]
     refine SW.while (A := Nat) (fun j => ⟨pad 61 [.junk, .fptr (encGr g) 0, .junk, hL g (hsN g D ((evsO g).take j)), .junk, .junk, .junk, .junk, .junk, .junk, .junk, .junk, .junk, .junk, .junk, .junk, .junk, .junk, .junk, .junk, .junk, .junk, .junk, .junk, .junk, .junk, .junk, .junk, .junk, .junk, .junk, .junk, .junk, .junk, .junk, .junk, .junk, .junk, .junk, .junk, .junk, .junk, .junk, .junk, .sl 1 ((orderE g.events).map encI), .int .i64 g.events.length, .int .i64 j], hM (hsN g D ((evsO g).take j)), []⟩) (fun j => g.events.length - j) (fun j => j ≤ g.events.length) 0 [0, 1, 2] (Nat.zero_le _) ?_ ?_
     · have h0 : hsN g D ((evsO g).take 0) = ⟨D, [], [], []⟩ := rfl
       rw [h0]
       simp only [mvcgen_simp, method_specs_simp, seval, encGr, hL, hM, obN, obS, mpI_nil1, mpI_nil2, orderE_len]
     · intro j hj
       have w2 : IntKind.i64.wrap ((j : Int) + 1) = ((j + 1 : Nat) : Int) := wadd1 j (by omega)
       refine CW.sound ?_
       simp only [method_specs_simp, seval, encGr]
       refine gB_split (fun h2 => ?_) (fun h2 => ?_)
       · simp only [decide_eq_true_eq, Int.ofNat_lt] at h2
         obtain ⟨id, hid⟩ : ∃ id, (orderE g.events)[j]? = some id := ⟨_, List.getElem?_eq_getElem (by rw [orderE_len]; exact h2)⟩
         obtain ⟨k, e, hk, hke, h3, h4, h5⟩ := order_place h hid
         have hev : (evsO g)[j]? = some e := by unfold evsO; rw [List.getElem?_map, hid, Option.map_some, h4]
         have hat : atE g.events id = some e := by rw [← h3]; exact at_mem h.srt h5
         have hnx : hsN g D ((evsO g).take (j + 1)) = addH g (hsN g D ((evsO g).take j)) e := by rw [List.take_add_one, hev, Option.toList_some, hsN_snoc]
         obtain ⟨hi1, hi2⟩ := (HI.at_ h D j hj).sts (order_prev h hev)
         have hfour := h.four e h5
         have hsl : SL g (stsA (hsN g D ((evsO g).take j)).A e.prev) := SL.of h (by rw [stsA_len]; omega) hi2
         obtain ⟨x, hx⟩ : ∃ x, x = hsN g D ((evsO g).take j) := ⟨_, rfl⟩
         rw [← hx] at hi1 hsl hnx ⊢
         simp only [method_specs_simp, seval, encGr, hL, hM, obN, obS, encEv, hid, encI, orderE_len]
         refine ⟨by omega, by omega, ?_⟩
         refine clY.con (c_at g id h.hx h.srt) (by simp only [method_specs_simp, encGr]) ?_
         rw [hat]
         simp only [method_specs_simp, seval, encGr, hL, hM, obN, obS, encEv, Option.getD_some, Option.isSome_some]
         refine clY.live [0, 1, 2] [] (n_add g x e h h5 hi1 hsl) ?_ (by simp [hM]) ?_
         · simp only [mvcgen_simp, method_specs_simp, seval, encGr, hL, hM, obN, obS, encEv]
         simp only [method_specs_simp, seval, encGr, hL, hM, obN, obS, encEv]
         refine Again.mk (j + 1) [0, 1, 2] h2 (Nat.sub_lt_sub_left h2 (Nat.lt_succ_self _)) ?_
         rw [hnx]
         have hD2 : (addH g x e).D = x.D := rfl
         simp only [mvcgen_simp, method_specs_simp, seval, encGr, hL, hM, obN, obS, encEv, w2, hD2]
       · have hj2 : j = g.events.length := by simp only [decide_eq_false_iff_not, Bool.not_true, Int.ofNat_lt] at h2; omega
         have hev : (evsO g).take j = evsO g := List.take_of_length_le (by rw [evsO_len, hj2]; exact Nat.le_refl _)
         rw [hev]
         obtain ⟨x, hx⟩ : ∃ x, x = hsN g D (evsO g) := ⟨_, rfl⟩
         have hfin : hsN g (depM g.events dl g.events.length) (evsO g) = x := by rw [hx, hD, hi2]
         rw [hfin, ← hx]
         refine SW.freeze [0, 1, 2] ?_
         simp only [mvcgen_simp, method_specs_simp, seval, encGr, hL, hM, obN, obS, encEv, convs_r8j, conv_junkj]
         refine sw_deep 2 ?_
         simp only [mvcgen_simp, method_specs_simp, seval, encGr, hL, hM, obN, obS, encEv, map_r8, List.map_cons, List.map_nil]
         refine CW.sound ?_
         simp only [method_specs_simp, seval, encGr, hL, hM, obN, obS, encEv, hF]
end
end Go.Proofs.YtdldgbkdcpdbeaaGreat
end

section
section
namespace Go.Pm
open Go.RowKit
inductive RdB {α : Type} (B : Nat → Prop) : Sem α → Prop
 | pure (a : α) : RdB B (.pure a)
 | load {m : Mode} {a : Addr} {k : Value → Sem α} : B a.block → (∀ v, RdB B (k v)) → RdB B (.load m a k)
 | shape {r : Nat} {k : Option (TypeId × Nat) → Sem α} : B r → (∀ v, RdB B (k v)) → RdB B (.shape r k)
 | program {k : Program → Sem α} : (∀ p, RdB B (k p)) → RdB B (.program k)
 | obj {r : Nat} {k : Obj → Sem α} : B r → (∀ o, RdB B (k o)) → RdB B (.getObj r k)
 | halt (h : Halt) : RdB B (.halt h)
 | never {s : Sem α} (h : ∀ (P : Program) (w : World) (x : α) (w1 : World), s.run P w ≠ .ok x w1) : RdB B s
theorem RdB.bind {α β : Type} {B : Nat → Prop} {s : Sem α} {f : α → Sem β} (hs : RdB B s) (hf : ∀ a, RdB B (f a)) : RdB B (s.bind f) := by
 induction hs with
 | pure a => exact hf a
 | load hb _ ih => exact .load hb fun v => ih v
 | shape hb _ ih => exact .shape hb fun v => ih v
 | program _ ih => exact .program fun v => ih v
 | obj hb _ ih => exact .obj hb fun v => ih v
 | halt h => exact .halt h
 | @never s h =>
   refine .never fun P w x w1 e => ?_
   have e : (s >>= f).run P w = .ok x w1 := e
   rw [Sem.run_bind] at e
   cases hs : s.run P w with
   | ok y w2 => exact h P w y w2 hs
   | halt y w2 => rw [hs] at e; cases e
def SameB (w w' : World) (b : Nat) : Prop := w'.heap[b]? = w.heap[b]? ∧ ∃ us e fr, w.heap[b]? = some (.cells us e fr)
theorem RdB.run {α : Type} {B : Nat → Prop} {s : Sem α} (hs : RdB B s) {P : Program} {w w' w1 : World} {x : α} (hk : ∀ b, B b → SameB w w' b) (h : s.run P w = .ok x w1) : w1 = w ∧ s.run P w' = .ok x w' := by
 induction hs with
 | pure a =>
   simp only [Sem.run] at h ⊢
   injection h with h1 h2
   exact ⟨h2.symm, by rw [h1]⟩
 | @load m a k hb _ ih =>
   obtain ⟨e1, us, el, fr, e2⟩ := hk _ hb
   have hc : w'.cell? a = w.cell? a := by unfold World.cell?; rw [e1]
   simp only [Sem.run] at h ⊢
   rw [hc]
   cases hv : w.cell? a with
   | some v => rw [hv] at h; exact ih v h
   | none =>
     exfalso
     rw [hv] at h
     simp only at h
     unfold World.farLoad at h
     rw [e2] at h
     cases h
 | @shape r k hb _ ih =>
   simp only [Sem.run] at h ⊢
   have : w'.shape? r = w.shape? r := by unfold World.shape?; rw [(hk _ hb).1]
   rw [this]
   exact ih _ h
 | @program k _ ih =>
   simp only [Sem.run] at h ⊢
   exact ih _ h
 | @obj r k hb _ ih =>
   simp only [Sem.run] at h ⊢
   rw [(hk _ hb).1]
   split at h
   · cases h
   · rename_i o hn ho
     exact ih _ h
   · cases h
 | halt e => simp only [Sem.run] at h; cases h
 | never hn => exact absurd h (hn _ _ _ _)
section
variable {B : Nat → Prop}
theorem rb_program : RdB B program := .program fun p => .pure p
theorem rb_typeInfo (t : TypeId) : RdB B (typeInfo t) := rb_program.bind fun p => by
 split
 · exact .pure _
 · exact .halt _
theorem rb_underlying (t : TypeId) : RdB B (underlying t) := rb_program.bind fun p => by
 split
 · exact .pure _
 · exact .halt _
theorem rb_sizeOf (t : TypeId) : RdB B (sizeOf t) := (rb_typeInfo t).bind fun i => .pure _
theorem rb_isAgg (t : TypeId) : RdB B (isAgg t) := (rb_underlying t).bind fun d => by
 split <;> exact .pure _
theorem rb_load {a : Addr} (h : B a.block) : RdB B (load a) := .load h fun v => .pure v
theorem add_block (a : Addr) (n : Nat) : (a.add n).block = a.block := by
 unfold Addr.add
 split <;> rfl
theorem rb_loadCells {a : Addr} (h : B a.block) : ∀ (n i : Nat) (acc : Array Value), RdB B (loadCellsFrom a i n acc)
 | 0, i, acc => .pure _
 | n + 1, i, acc => (rb_load (by rw [add_block]; exact h)).bind fun v => rb_loadCells h n (i + 1) _
theorem rb_loadVar (t : TypeId) {a : Addr} (h : B a.block) : RdB B (loadVar t a) := (rb_isAgg t).bind fun b => by
 cases b
 · exact rb_load h
 · exact (rb_sizeOf t).bind fun n => (rb_loadCells h n 0 #[]).bind fun cs => .pure _
theorem rb_loadAt (t : TypeId) {a : Addr} (h : B a.block) : RdB B (Instr.loadAt t (.pointer (some a))) := by
 show RdB B (loadVar t a)
 exact rb_loadVar t h
theorem rb_noView {a : Addr} (h : B a.block) : RdB B (noView a) := by
 unfold noView
 refine RdB.bind ?_ fun x => ?_
 · unfold viewAt
   refine RdB.bind (.shape h fun v => .pure v) fun y => ?_
   split
   · exact .pure _
   · show RdB B (Sem.getObj a.block fun o => (Sem.pure o).bind _)
     refine .obj h fun o => ?_
     simp only [Sem.bind]
     split <;> exact .pure _
 · split
   · exact .halt _
   · exact .pure _
theorem rb_byteOf {a : Addr} (h : B a.block) : RdB B (byteOf a) := by
 unfold byteOf
 split
 · exact .pure _
 · refine rb_program.bind fun p => (rb_noView h).bind fun _ => ?_
   refine RdB.bind (.shape h fun v => .pure v) fun x => ?_
   split
   · simp only
     split
     · exact .pure _
     · split
       · exact .pure _
       · exact .halt _
   · exact .halt _
theorem rb_fieldPlace {a : Addr} (h : B a.block) (f : Field) : RdB B (fieldPlace a f) := by
 unfold fieldPlace
 refine (rb_sizeOf _).bind fun n => ?_
 split
 · unfold partAt
   exact (rb_byteOf h).bind fun b => (rb_byteOf (by first | exact h | (rw [add_block]; exact h))).bind fun b2 => .pure _
 · exact .pure _
theorem rb_fieldAt (s : TypeId) {a : Addr} (h : B a.block) (i : Nat) : RdB B (Instr.fieldAt s (.pointer (some a)) i) := by
 unfold Instr.fieldAt
 refine (rb_underlying s).bind fun d => ?_
 split
 · split
   · exact (rb_fieldPlace h _).bind fun a => .pure _
   · exact .halt _
 · exact .halt _
theorem rb_extract (v : Value) (i : Nat) : RdB B (Instr.extract v i) := by
 unfold Instr.extract
 split
 · split
   · exact .pure _
   · exact .halt _
 · exact .halt _
theorem rb_asIntOf (v : Value) : RdB B (asIntOf v) := by
 unfold asIntOf
 split
 · exact .pure _
 · exact .halt _
 · exact .halt _
theorem rb_sureAddr (v : Value) : RdB B (Instr.sureAddr v) := by
 unfold Instr.sureAddr
 split
 · exact .pure _
 · exact .halt _
theorem never_rt {α : Type} (a b : Int) (s : Bool) (c : BoundsCode) (P : Program) (w : World) (r : α) (w1 : World) : (runtimePanic (.bounds a b s c) : Sem α).run P w ≠ .ok r w1 := fun e => by
 unfold runtimePanic goPanic at e
 rw [Sem.run_bind] at e
 cases hs : Sem.run P program w with
 | ok y w2 => rw [hs] at e; cases e
 | halt y w2 => rw [hs] at e; cases e
theorem never_bounds {α : Type} (k : IntKind) (x y : Int) (c : BoundsCode) : RdB B (boundsPanic (α := α) k x y c) := .never fun P w r w1 e => by
 unfold boundsPanic at e
 simp only at e
 split at e
 · rw [Sem.run_bind] at e
   cases hs : Sem.run P ((fun x => x == 1) <$> choose (.extern "runtime.boundsError.signed" 2)) w with
   | ok y w2 => rw [hs] at e; exact never_rt _ _ _ _ _ _ _ _ e
   | halt y w2 => rw [hs] at e; cases e
 · rw [Sem.run_bind] at e
   exact never_rt _ _ _ _ _ _ _ _ e
theorem rb_indexAt (t : TypeId) (x i : Value) : RdB B (Instr.indexAt t x i) := by
 unfold Instr.indexAt
 refine (rb_asIntOf _).bind fun ki => ?_
 refine (rb_underlying t).bind fun d => ?_
 split
 · refine (rb_sureAddr _).bind fun a => (RdB.pure _).bind fun z => ?_
   obtain ⟨base, len, elem⟩ := z
   refine (rb_underlying t).bind fun d => ?_
   simp only
   cases base with
   | none => exact never_bounds _ _ _ _
   | some a =>
     simp only
     split
     · exact (rb_sizeOf _).bind fun n => .pure _
     · split <;> (split <;> first | exact .halt _ | exact never_bounds _ _ _ _)
 · refine (RdB.pure _).bind fun z => ?_
   obtain ⟨base, len, elem⟩ := z
   refine (rb_underlying t).bind fun d => ?_
   simp only
   cases base with
   | none => exact never_bounds _ _ _ _
   | some a =>
     simp only
     split
     · exact (rb_sizeOf _).bind fun n => .pure _
     · split <;> (split <;> first | exact .halt _ | exact never_bounds _ _ _ _)
 · exact .halt _
def lookP (B : Nat → Prop) (ev : Operand → Value) : Op → Prop
 | .move _ => True
 | .extract _ _ => True
 | .indexAddr _ _ _ => True
 | .nilCheck x => ∃ a, ev x = .pointer (some a)
 | .fieldAddr _ x _ => ∃ a, ev x = .pointer (some a) ∧ B a.block
 | .load _ x => ∃ a, ev x = .pointer (some a) ∧ B a.block
 | _ => False
theorem lookP_run {P : Program} {o : Oper} {ev : Operand → Value} (hk : lookP B ev o.op) {w w1 w' : World} {x : Next} (hw : ∀ b, B b → SameB w w' b) (h : (execOp ev o).run P w = .ok x w1) : ∃ v, x = .value v ∧ w1 = w ∧ (execOp ev o).run P w' = .ok (.value v) w' := by
 have key : ∀ s : Sem Value, RdB B s → ((do pure (.value (← s)) : Sem Next)).run P w = .ok x w1 → ∃ v, x = .value v ∧ w1 = w ∧ ((do pure (.value (← s)) : Sem Next)).run P w' = .ok (.value v) w' := by
   intro s hs h
   have hr : RdB B (do pure (.value (← s)) : Sem Next) := hs.bind fun v => .pure _
   obtain ⟨h1, h2⟩ := hr.run hw h
   rw [Sem.run_bind] at h
   cases hv : s.run P w with
   | halt e w2 => rw [hv] at h; cases h
   | ok v w2 =>
     rw [hv, Result.andThen_ok] at h
     simp only [Sem.run_pure] at h
     injection h with h3 h4
     subst h3
     exact ⟨v, rfl, h1, h2⟩
 cases hop : o.op <;> rw [hop] at hk <;> first | (cases hk; done) | skip
 · rename_i y
   simp only [execOp, hop] at h ⊢
   simp only [Sem.run_pure] at h ⊢
   injection h with h1 h2
   exact ⟨_, h1.symm, h2.symm, rfl⟩
 · rename_i t y
   obtain ⟨a, e, hb⟩ := hk
   simp only [execOp, hop] at h ⊢
   rw [e] at h ⊢
   exact key _ (rb_loadAt _ hb) h
 · rename_i y
   obtain ⟨a, e⟩ := hk
   simp only [execOp, hop, e] at h ⊢
   simp only [Sem.run_pure] at h ⊢
   injection h with h1 h2
   exact ⟨_, h1.symm, h2.symm, rfl⟩
 · rename_i t y i
   obtain ⟨a, e, hb⟩ := hk
   simp only [execOp, hop] at h ⊢
   rw [e] at h ⊢
   exact key _ (rb_fieldAt _ hb _) h
 · simp only [execOp, hop] at h ⊢
   exact key _ (rb_indexAt _ _ _) h
 · simp only [execOp, hop] at h ⊢
   exact key _ (rb_extract _ _) h
end
def frzX : V → Prop
 | .fptr cs _ => 0 < cs.length
 | .sptr sz xs i _ => 0 < sz ∧ i < xs.length
 | _ => False
theorem cell_cells {w : World} {a : Addr} {u : Value} (h : w.cell? a = some u) : ∃ us e fr, w.heap[a.block]? = some (.cells us e fr) := by
 unfold World.cell? at h
 cases hb : w.heap[a.block]? with
 | none => rw [hb] at h; simp at h
 | some o => cases o <;> rw [hb] at h <;> first | exact ⟨_, _, _, rfl⟩ | simp at h
theorem frz_ptr {c : Cx} {x : V} {v : Value} (h : RV c x v) (hx : frzX x) : ∃ a, v = .pointer (some a) ∧ c.fz a.block ∧ ∃ us e fr, c.w.heap[a.block]? = some (.cells us e fr) := by
 cases x <;> first | exact hx.elim | skip
 · rename_i sz xs i off
   obtain ⟨h1, h2⟩ : 0 < sz ∧ i < xs.length := hx
   obtain ⟨b, o, e, hf, hr⟩ := h
   refine ⟨_, e, hf, ?_⟩
   obtain ⟨g1, g2⟩ := hr.get i (List.getElem?_eq_getElem h2)
   obtain ⟨u, g3, _⟩ := g2.get 0 (List.getElem?_eq_getElem (by omega))
   have := cell_cells g3; exact this
 · rename_i cs off
   obtain ⟨b, e, hf, hr⟩ := h
   refine ⟨_, e, hf, ?_⟩
   obtain ⟨u, g3, _⟩ := hr.get 0 (List.getElem?_eq_getElem hx)
   have := cell_cells g3; exact this
def opX (ev : Operand → V) : Op → Prop
 | .move _ => True
 | .extract _ _ => True
 | .indexAddr _ _ _ => True
 | .nilCheck x => frzX (ev x)
 | .fieldAddr _ x _ => frzX (ev x)
 | .load _ x => frzX (ev x)
 | _ => False
def FLi (P : Program) : List Oper → St → Prop
 | [], st => st.m = []
 | o :: os, st => opX (St.ev st.t) o.op ∧ T1 P o st (fun st' => FLi P os st')
def pickM : Option Oper → List Oper → List Oper
 | some o, os => o :: os
 | none, os => os
def pickO (os : List Oper) : List Nat → List Oper
 | [] => []
 | f :: fl => pickM os[f]? (pickO os fl)
def FL (P : Program) (ops : Array Oper) (fl : List Nat) (t : List V) : Prop := FLi P (pickO ops.toList fl) ⟨t, [], []⟩
theorem FLi_m {P : Program} : ∀ (os : List Oper) (st : St), FLi P os st → st.m = []
 | [], _, h => h
 | o :: os, st, ⟨_, h⟩ => by
   obtain ⟨r, new, _, h2⟩ := Q1_sound (o := o) h
   have := FLi_m os _ h2
   exact (List.append_eq_nil_iff.1 this).1
section
variable {P : Program} {os : List Oper} {t : List V} {gs : List V} {o : Oper} {m : List Ob} {ops : Array Oper} {fl : List Nat} {ev : Operand → V}
@[method_specs_simp] theorem FL_eq : FL P os.toArray fl t = FLi P (pickO os fl) ⟨t, [], []⟩ := nr rfl
@[method_specs_simp] theorem FLi_cons : FLi P (o :: os) ⟨t, m, gs⟩ = (opX (St.ev t) o.op ∧ T1 P o ⟨t, m, gs⟩ (fun st' => FLi P os st')) := nr rfl
@[method_specs_simp] theorem FLi_nil : FLi P [] ⟨t, [], gs⟩ = True := eq_true rfl
@[method_specs_simp] theorem pick_cons {f : Nat} : pickO os (f :: fl) = pickM os[f]? (pickO os fl) := nr rfl
@[method_specs_simp] theorem pick_nil : pickO os [] = [] := nr rfl
@[method_specs_simp] theorem pick_some {o : Oper} : pickM (some o) os = o :: os := nr rfl
@[method_specs_simp] theorem opX_load {u : TypeId} {x : Operand} : opX ev (.load u x) = frzX (ev x) := nr rfl
@[method_specs_simp] theorem opX_field {u i : Nat} {x : Operand} : opX ev (.fieldAddr u x i) = frzX (ev x) := nr rfl
@[method_specs_simp] theorem opX_move {x : Operand} : opX ev (.move x) = True := nr rfl
@[method_specs_simp] theorem opX_index {u : TypeId} {x y : Operand} : opX ev (.indexAddr u x y) = True := nr rfl
@[method_specs_simp] theorem frzX_fptr {c : V} {cs : List V} {off : Nat} : frzX (.fptr (c :: cs) off) = True := eq_true (Nat.succ_pos _)
@[method_specs_simp] theorem frzX_sptr {sz i off : Nat} {xs : List (List V)} : frzX (.sptr sz xs i off) = (0 < sz ∧ i < xs.length) := nr rfl
end
def fltS (ops : Array Oper) : List Nat → List Nat → Bool
 | _, [] => true
 | done, f :: fs => !(fs.contains f) && fltS ops (f :: done) fs && (match ops[f]? with
   | some o => o.guard.isNone && (o.after.toList.all fun e => !Region.binds .any e || done.contains e.on) && ((List.range ops.size).all fun j => Nat.beq j f || done.contains j || (match ops[j]? with
       | some oj => (oj.after.toList.any fun e => Region.binds .any e && Nat.beq e.on f) || o.apart ops oj
       | none => true))
   | none => false)
section
variable {P : Program} {ops : Array Oper} {K : St → Prop} {w0 : World} {E Zo : Nat → Prop} {gh : List Value} {Q : Exit → Act → World → Prop}
theorem head_held {S : World → Prop} {k : Nat} {st st' : St} {rs : List Res} {fl : List Nat} (A : Any ops fl k) (hS : ∀ st a w, Rel w0 E Zo gh st a w → S w) (hQ : ∀ st a w, K st → Rel w0 E Zo gh st a w → Q .normal a w)
   (hrun : Run P (dsts ops) (ops.toList.take k) st rs st') (htail : RS P (dsts ops) (ops.toList.drop k) st' K) :
   ∀ (fuel : Nat) (F : List Bool) (a : Act) (w : World), F.length = k → left F + (ops.size - k) ≤ fuel → (∀ i, F[i]? = some true → ∀ j ∈ waits ops i, F[j]? = some true) → (∀ f ∈ fl, F[f]? = some true) →
     Part ops k st rs w0 E Zo gh F a w → wpAnyH P .any ops Q S fuel (lay0 ops.size F) a w := by
 have hlenk : (ops.toList.take k).length = k := by simp [A.le]
 have hrl : rs.length = k := by rw [hrun.len, hlenk]
 have htl : ∀ (fuel : Nat) (a : Act) (w : World), ops.size - k ≤ fuel → Rel w0 E Zo gh st' a w → wpAnyH P .any ops Q S fuel (flags ops.size k) a w := fun fuel a w hfu r =>
   tail_held A hQ (fun i o st K a w _ _ hS1 _ r => Oper.wp_mono (fun a w h => ⟨(by obtain ⟨st'', _, h2⟩ := h; exact hS _ _ _ h2), h⟩) (S1_sound hS1 w0 E Zo gh a w _ r)) fuel k st' a w (Nat.le_refl _) A.le (by omega) htail (hS _ _ _ r) r
 intro fuel
 induction fuel with
 | zero =>
   intro F a w hF hl hc hfl r
   have h0 : left F = 0 := by omega
   have hall := left_zero h0
   rw [hF] at hall
   subst hall
   rw [lay0_all A.le]
   refine htl 0 a w (by omega) ?_
   rw [hrun.fin, hlenk]
   exact r
 | succ fuel ih =>
   intro F a w hF hl hc hfl r
   by_cases h0 : left F = 0
   · have hall := left_zero h0
     rw [hF] at hall
     subst hall
     rw [lay0_all A.le]
     refine htl (fuel + 1) a w (by omega) ?_
     rw [hrun.fin, hlenk]
     exact r
   · refine ⟨fun hr => ?_, fun i hi => ?_⟩
     · exfalso
       refine h0 ?_
       have hsz : (lay0 ops.size F).size = ops.size := by have := A.le; simp [lay0]; omega
       have := ready_some hsz A.early hr
       have hF' : F = List.replicate F.length true := all_true fun j hj => by rw [← lay0_get hj]; exact this j (by have := A.le; omega)
       rw [hF']
       exact left_rep _
     · obtain ⟨h1, h2, h3⟩ := ready_waits hi
       have hik : i < k := by
         by_cases hik : i < k
         · exact hik
         · exfalso
           refine h0 ?_
           have hw3 : ∀ l ∈ waits ops i, F[l]? = some true := by
             intro l hl2
             have := h3 l hl2
             by_cases hlk : l < F.length
             · rw [Array.getD_eq_getD_getElem?, lay0_get hlk] at this
               cases hb : F[l]? with
               | none => rw [hb] at this; cases this
               | some b => rw [hb] at this; simpa using this
             · exfalso
               rw [Array.getD_eq_getD_getElem?] at this
               unfold lay0 at this
               rw [List.getElem?_toArray, List.getElem?_append_right (by omega), List.getElem?_replicate] at this
               split at this <;> simp at this
           have hanc0 : ∀ {a b : Nat}, Anc ops a b → (∀ l ∈ waits ops a, F[l]? = some true) → F[b]? = some true := by
             intro a b h
             induction h with
             | one h => exact fun hw => hw _ h
             | more h _ ih => exact fun hw => ih (hc _ (hw _ h))
           have hF' : F = List.replicate F.length true := all_true fun j hj => by
             by_cases hjf : j ∈ fl
             · exact hfl j hjf
             · exact hanc0 (A.tail i (by omega) h2 j (by omega) hjf) hw3
           rw [hF']
           exact left_rep _
       have hiF : F[i]? = some false := by
         rw [Array.getD_eq_getD_getElem?, lay0_get (by omega)] at h1
         have hlt : i < F.length := by omega
         rw [List.getElem?_eq_getElem hlt] at h1 ⊢
         simpa using h1
       have h3' : ∀ j ∈ waits ops i, F[j]? = some true := by
         intro j hj
         have hj2 := A.early i h2 j hj
         have := h3 j hj
         rw [Array.getD_eq_getD_getElem?, lay0_get (by omega)] at this
         cases hb : F[j]? with
         | none => rw [hb] at this; cases this
         | some b => rw [hb] at this; simpa using this
       rw [lay0_set (by omega)]
       have hnext : ∀ (a' : Act) (w' : World), Part ops k st rs w0 E Zo gh (F.set i true) a' w' → S w' ∧ wpAnyH P .any ops Q S fuel (lay0 ops.size (F.set i true)) a' w' := by
         intro a' w' hp
         refine ⟨hS _ _ _ hp, ?_⟩
         refine ih (F.set i true) a' w' (by simpa using hF) (by have := left_set hiF; omega) ?_ (fun f hf => ?_) hp
         rotate_left
         · by_cases e : f = i
           · subst e; rw [List.getElem?_set_self (by omega)]
           · rw [List.getElem?_set_ne (fun q => e q.symm)]; exact hfl f hf
         intro j hj l hl
         by_cases e : j = i
         · subst e
           have hlj := A.early j h2 l hl
           rw [List.getElem?_set_ne (by omega)]
           exact h3' l hl
         · rw [List.getElem?_set_ne (fun q => e q.symm)] at hj
           have := hc j hj l hl
           by_cases e2 : l = i
           · subst e2
             rw [List.getElem?_set_self (by omega)]
           · rw [List.getElem?_set_ne (fun q => e2 q.symm)]
             exact this
       rcases head_step (Q := Q) A hrun hF hc r hik h2 hiF h3' hnext with ⟨hw, h⟩ | ⟨hw, h⟩
       · unfold wpOp
         rw [Array.getElem?_eq_getElem h2]
         simp only
         rw [if_pos hw]
         exact .inl h
       · unfold wpOp
         rw [Array.getElem?_eq_getElem h2]
         simp only
         rw [if_neg (by rw [hw]; decide)]
         exact h
theorem live_keep {w : World} {Zo : Nat → Prop} {m : List Ob} {β β' : List Lc} (h : (cx w Zo m β).le (cx w Zo m β')) {b : Nat} (k : liveAt m β b) : liveAt m β' b := by
 obtain ⟨o, ob, l, h1, h2, h3⟩ := k
 have ho := h.ob o trivial
 have ho : obLe m[o]? β[o]? m[o]? β'[o]? := ho
 rw [h1, h2] at ho
 cases ob with
 | hole => simp [Ob.blk] at h3
 | dead => simp [Ob.blk] at h3
 | box lv cs =>
   rcases ho with ho | ⟨lv', cs', l', e1, e2, e3⟩
   · cases ho
   · refine ⟨o, _, l', h1, e2, ?_⟩
     cases lv
     · simp [Ob.blk] at h3
     · simp only [Ob.blk, Option.some.injEq] at h3 ⊢; rw [e3]; exact h3
 | arr lv sz xs =>
   rcases ho with ho | ⟨lv', xs', e1, e2, e3⟩
   · cases ho
   · exact ⟨o, _, l, h1, e2, h3⟩
 | mp lv ks vs =>
   rcases ho with ho | ⟨lv', ks', vs', l', e1, e2, e3⟩
   · cases ho
   · refine ⟨o, _, l', h1, e2, ?_⟩
     cases lv
     · simp [Ob.blk] at h3
     · simp only [Ob.blk, Option.some.injEq] at h3 ⊢; rw [e3]; exact h3
theorem flt_soundK {fl : List Nat} {k : Nat} {st st' : St} {rs : List Res} {wb : World} {β0 : List Lc} (A : Any ops fl k) (hQ : ∀ st2 a w, K st2 → Rel wb (liveAt st.m β0) Zo gh st2 a w → Q .normal a w) (hns : noSel ops = true) (hP : ∀ c a w, ¬ Q (.panic c) a w)
   (hrun : Run P (dsts ops) (ops.toList.take k) st rs st') (htail : RS P (dsts ops) (ops.toList.drop k) st' K) :
   ∀ (todo done : List Nat) (fuel : Nat) (F : List Bool) (a : Act) (t : List V) (β : List Lc), fltS ops done todo = true → FL P ops todo t → Mem wb Zo st.m β → (cx wb Zo st.m β0).le (cx wb Zo st.m β) → RVs (cx wb Zo st.m β) t a.tmps.toList →
     (∀ g ∈ done, F[g]? = some true) → (∀ g ∈ done, g < k) → (∀ f ∈ todo, f < k) → F.length = k →
     left F + (ops.size - k) ≤ fuel → (∀ i, F[i]? = some true → ∀ j ∈ waits ops i, F[j]? = some true) →
     (∀ f ∈ todo, F[f]? = some false) → (∀ f ∈ fl, f ∈ todo ∨ F[f]? = some true) → Part ops k st rs wb (liveAt st.m β0) Zo gh F a wb → wpAnyH P .any ops Q (fun w => Frame (liveAt st.m β0) wb w) fuel (lay0 ops.size F) a wb
 | [], done, fuel, F, a, t, β, _, _, _, _, _, _, _, _, hF, hl, hc, _, hfl, r => head_held A (fun _ _ _ ⟨_, _, _, h, _⟩ => h) hQ hrun htail fuel F a wb hF hl hc (fun f hf => (hfl f hf).resolve_left (by simp)) r
 | f :: todo, done, fuel, F, a, t, β, hb, hv, M, hle, ht, hd, hdk, hk, hF, hl, hc, hf, hfl, r => by
   have hfF := hf f List.mem_cons_self
   have hfk := hk f List.mem_cons_self
   have hleft := left_set hfF
   obtain ⟨fuel, rfl⟩ : ∃ n, fuel = n + 1 := ⟨fuel - 1, by omega⟩
   have hsz : f < ops.size := by have := A.le; omega
   have ho : ops[f]? = some ops[f] := Array.getElem?_eq_getElem hsz
   unfold fltS at hb
   unfold FL at hv
   have ho' : ops.toList[f]? = some ops[f] := by rw [Array.getElem?_toList]; exact ho
   rw [pickO, ho'] at hv
   rw [ho] at hb
   obtain ⟨hv1, hv2⟩ := hv
   have hv2 : Q1 P (ops[f]).op (St.ev t) [] 0 (fun r new => FLi P (pickO ops.toList todo) ⟨putT t (ops[f]).dst r, [] ++ new, []⟩) := hv2
   simp only [Bool.and_eq_true, Bool.not_eq_true'] at hb
   obtain ⟨⟨hb1, hb2⟩, ⟨hb4, hb5⟩, hb6⟩ := hb
   have hfn : f ∉ todo := fun h => by have := List.contains_iff_mem.2 h; rw [hb1] at this; cases this
   have hg : (ops[f]).guard = none := by simpa using hb4
   have hw : ∀ j ∈ waits ops f, j ∈ done := by
     intro j hj
     obtain ⟨e, he, hbe, rfl⟩ := (waits_spec ho).1 hj
     have := List.all_eq_true.1 hb5 e (Array.mem_toList_iff.2 he)
     rw [hbe] at this
     simpa using this
   have hwant : Region.wanted ops[f] (yielded ops a.tmps) = true := by unfold Region.wanted; rw [hg]
   have hfz : ∀ b, (cx wb Zo st.m β).fz b → b < wb.heap.size ∧ ¬ liveAt st.m β0 b := fun b h => ⟨h.1, fun hl => h.2 (.inr (live_keep hle hl))⟩
   have hlook : lookP (fun b => (b < wb.heap.size ∧ ¬ liveAt st.m β0 b) ∧ ∃ us e fr, wb.heap[b]? = some (.cells us e fr)) a.eval (ops[f]).op := by
     cases hop : (ops[f]).op <;> rw [hop] at hv1 <;> first | exact hv1.elim | trivial | skip
     case load u x =>
       obtain ⟨A, e, h1, h2⟩ := frz_ptr (ev_RV ht x) hv1
       exact ⟨A, e, hfz _ h1, h2⟩
     case nilCheck x =>
       obtain ⟨A, e, h1, h2⟩ := frz_ptr (ev_RV ht x) hv1
       exact ⟨A, e⟩
     case fieldAddr u x i =>
       obtain ⟨A, e, h1, h2⟩ := frz_ptr (ev_RV ht x) hv1
       exact ⟨A, e, hfz _ h1, h2⟩
   have hsame : ∀ w', Frame (liveAt st.m β0) wb w' → ∀ b, ((b < wb.heap.size ∧ ¬ liveAt st.m β0 b) ∧ ∃ us e fr, wb.heap[b]? = some (.cells us e fr)) → SameB wb w' b := fun w' hS b h => ⟨hS.block b h.1.1 h.1.2, h.2⟩
   obtain ⟨rv, new, hqs, hv3⟩ := Q1_sound hv2
   have hnew : new = [] := FLi_m _ _ hv3
   subst hnew
   have hwp := hqs wb Zo st.m β a (fun _ _ _ => False) M (fun o ob h => by simp at h) (fun x _ => ev_RV ht x) (fun j hj => by simp at hj)
   unfold Oper.wp at hwp
   obtain ⟨v, hrun1, hyield, hres⟩ : ∃ v, (execOp a.eval ops[f]).run P wb = .ok (.value v) wb ∧ (∀ w', Frame (liveAt st.m β0) wb w' → (execOp a.eval ops[f]).run P w' = .ok (.value v) w') ∧ ∃ β', Mem wb Zo st.m β' ∧ (cx wb Zo st.m β).le (cx wb Zo st.m β') ∧ RVs (cx wb Zo st.m β') (putT t (ops[f]).dst rv) (a.put (ops[f]).dst v).tmps.toList := by
     cases hr : (execOp a.eval ops[f]).run P wb with
     | ok x w1 =>
       obtain ⟨v, rfl, rfl, h3⟩ := lookP_run hlook (hsame wb (Frame.refl _ _)) hr
       rw [hr] at hwp
       obtain ⟨v', β', e, hG, M', hle', hrv, _⟩ := hwp
       refine ⟨v, rfl, fun w' hS => ?_, β', M', hle', ?_⟩
       · obtain ⟨v2, e2, _, h4⟩ := lookP_run hlook (hsame w' hS) hr
         injection e2 with e2
         subst e2
         exact h4
       · rw [e]
         exact (ht.mono hle').put hrv _
     | halt e w1 =>
       rw [hr] at hwp
       exfalso
       cases e <;> exact hwp
   obtain ⟨β', M', hle', hvs⟩ := hres
   refine wpAnyH_first (v := v) ho (fun j o cs b hj => noSel_out hns hj cs b) (fun c a w h => (hP c _ _ h).elim) fuel (lay0 ops.size F) a wb (fun j oj hj hne hun hno => ?_) ?_ (.inl ⟨hwant, hyield⟩) (Frame.refl _ _) ?_
   · have := List.all_eq_true.1 hb6 j (List.mem_range.2 (Array.getElem?_eq_some_iff.1 hj).1)
     rw [hj] at this
     simp only [Bool.or_eq_true] at this
     rcases this with (h | h) | h | h
     · exact absurd (Nat.eq_of_beq_eq_true h) hne
     · exfalso
       have hm : j ∈ done := by simpa using h
       have hF2 := hd j hm
       rw [Array.getD_eq_getD_getElem?, lay0_get (by have := hdk j hm; omega), hF2] at hun
       cases hun
     · obtain ⟨e, he, h2⟩ := List.any_eq_true.1 h
       simp only [Bool.and_eq_true] at h2
       exact absurd (Nat.eq_of_beq_eq_true h2.2) (hno e (Array.mem_toList_iff.1 he) h2.1)
     · exact h
   · refine mem_ready.2 ⟨?_, _, ho, fun e he hbe => ?_⟩
     · rw [Array.getD_eq_getD_getElem?, lay0_get (by omega), hfF]; rfl
     · have hm : e.on ∈ done := hw _ ((waits_spec ho).2 ⟨e, he, hbe, rfl⟩)
       rw [Array.getD_eq_getD_getElem?, lay0_get (by have := hdk _ hm; omega), hd _ hm]; rfl
   · rw [lay0_set (by omega)]
     have hpart : Part ops k st rs wb (liveAt st.m β0) Zo gh (F.set f true) (a.put (ops[f]).dst v) wb := by
       rcases head_step (Q := fun _ _ _ => False) (K' := fun a' w' => Part ops k st rs wb (liveAt st.m β0) Zo gh (F.set f true) a' w') A hrun hF hc r hfk hsz hfF (fun j hj => hd j (hw j hj)) (fun _ _ h => h) with ⟨_, h⟩ | ⟨h, _⟩
       · unfold Oper.wp at h
         rw [hrun1] at h
         exact h
       · rw [hwant] at h; cases h
     have hset : ∀ g, F[g]? = some true → (F.set f true)[g]? = some true := fun g h => by
       by_cases e : g = f
       · subst e; rw [List.getElem?_set_self (by omega)]
       · rw [List.getElem?_set_ne (fun q => e q.symm)]; exact h
     refine flt_soundK A hQ hns hP hrun htail todo (f :: done) fuel (F.set f true) _ _ β' hb2 hv3 M' (hle.trans hle') hvs (fun g hg => ?_) (fun g hg => ?_) (fun g hg => hk g (List.mem_cons_of_mem _ hg)) (by simpa using hF) (by omega) ?_ (fun g hg => ?_) (fun g hg => ?_) hpart
     · rcases List.mem_cons.1 hg with rfl | hg
       · rw [List.getElem?_set_self (by omega)]
       · exact hset g (hd g hg)
     · rcases List.mem_cons.1 hg with rfl | hg
       · exact hfk
       · exact hdk g hg
     · intro j hj l hl
       by_cases e : j = f
       · subst e
         exact hset l (hd l (hw l hl))
       · rw [List.getElem?_set_ne (fun q => e q.symm)] at hj
         exact hset l (hc j hj l hl)
     · have hne : g ≠ f := fun e => hfn (e ▸ hg)
       rw [List.getElem?_set_ne (fun q => hne q.symm)]
       exact hf g (List.mem_cons_of_mem _ hg)
     · rcases hfl g hg with h | h
       · rcases List.mem_cons.1 h with rfl | h
         · exact .inr (by rw [List.getElem?_set_self (by omega)])
         · exact .inl h
       · exact .inr (hset g h)
theorem SW.drawnK0 {st : St} {Q : Exit → St → Prop} {id : Nat} (fl : List Nat) (k : Nat) (hm : P.follows .mixedOrders = true) (hk : anyF ops fl k = true) (hf : fltS ops [] fl = true) (hfv : FL P ops fl st.t) (hns : noSel ops = true) (hP : ∀ c st, ¬ Q (.panic c) st)
   (h : RQ P (dsts ops) k ops.toList st (Q .normal)) : SW P (.region id ops true) st Q := by
 intro w0 E Zo gh a w r
 have A := Any.of hk
 obtain ⟨rs, st', hrun, htail⟩ := RQ_run h
 refine wp_region_any hm ?_
 have hlenk : (ops.toList.take k).length = k := by simp [A.le]
 have hrl : rs.length = k := by rw [hrun.len, hlenk]
 have h0 : Array.replicate ops.size false = lay0 ops.size (List.replicate k false) := by
   have := A.le
   unfold lay0
   rw [List.length_replicate, List.replicate_append_replicate, show k + (ops.size - k) = ops.size by omega]
   simp
 rw [h0]
 obtain ⟨β, M, g1, g2, g3, g4, g5⟩ := r
 have hG : Grow w { w with drawn := w.drawn + 1 } := Grow.drew w
 have hup : ∀ (st2 : St) (a : Act) (w2 : World), Rel { w with drawn := w.drawn + 1 } (liveAt st.m β) Zo gh st2 a w2 → Rel w0 E Zo gh st2 a w2 := by
   rintro st2 a w2 ⟨β2, M2, q1, q2, q3, q4, q5⟩
   refine ⟨β2, M2, fun b hb => ?_, ?_, q3, q4, q5⟩
   · rcases q1 b hb with h | h
     · exact g1 b h
     · exact .inr (Nat.le_trans g2.size h)
   · have g3 : Frame E w0 { w with drawn := w.drawn + 1 } := g2.trans (hG.mono (fun _ q => q.elim))
     exact ⟨q2.os.trans g3.os, q2.tape.trans g3.tape, q2.output.trans g3.output, Nat.le_trans g3.size q2.size, fun i hi hE => (q2.block i (Nat.lt_of_lt_of_le hi g3.size) (fun hl => (g1 i hl).elim hE (fun h => by omega))).trans (g3.block i hi hE), Nat.le_trans g3.drawn q2.drawn⟩
 refine wpAny_of_held _ _ _ _ (flt_soundK (K := Q .normal) (st := st) (β0 := β) (wb := { w with drawn := w.drawn + 1 }) (Zo := Zo) (gh := gh) A (fun st2 a w hq hr => ⟨st2, hq, hup _ _ _ hr⟩) hns (fun c a w ⟨st, h, _⟩ => hP c st h) hrun htail fl [] ops.size _ a st.t β hf hfv (M.grow hG) (Cx.le.refl _) (g4.mono (cx_le_grow hG)) (fun g hg => by cases hg) (fun g hg => by cases hg) A.flt (by simp) ?_ (fun i hi => ?_) (fun f hf => ?_) (fun f hf => .inl hf) ?_)
 · have h1 : ∀ n, left (List.replicate n false) = n := by
     intro n
     induction n with
     | zero => rfl
     | succ n ih => simp [List.replicate_succ, left, ih]; omega
   have := A.le
   rw [h1]; omega
 · rw [List.getElem?_replicate] at hi
   split at hi <;> cases hi
 · rw [List.getElem?_replicate, if_pos (A.flt f hf)]
 · unfold Part
   rw [runT_none]
   have hf : ∀ (l : List Res), ∃ n, flatM l (List.replicate l.length false) = List.replicate n .hole := by
     intro l
     induction l with
     | nil => exact ⟨0, rfl⟩
     | cons x xs ih =>
       obtain ⟨n, hn⟩ := ih
       refine ⟨(newOf x).length + n, ?_⟩
       simp [List.replicate_succ, flatM, hn, ← List.replicate_append_replicate]
   obtain ⟨n, hn⟩ := hf rs
   rw [hrl] at hn
   rw [hn]
   obtain ⟨M1, hle⟩ := (M.grow hG).holes n
   refine ⟨_, M1, ?_, Frame.refl _ _, g3, g4.mono ((cx_le_grow hG).trans hle), g5.mono ((cx_le_grow hG).trans hle)⟩
   rintro b ⟨p, q, l, h1, h2, h3⟩
   rcases getElem?_append_holes h1 with h1 | ⟨_, rfl⟩
   · rw [List.getElem?_append_left (by rw [M.len]; exact (List.getElem?_eq_some_iff.1 h1).1)] at h2
     exact .inl ⟨p, q, l, h1, h2, h3⟩
   · simp [Ob.blk] at h3
theorem SW.drawnK {st : St} {Q : Exit → St → Prop} {id : Nat} (fl : List Nat) (k : Nat) (hm : P.follows .mixedOrders = true) (hk : anyF ops fl k = true) (hf : fltS ops [] fl = true) (hns : noSel ops = true) (hfv : FL P ops fl st.t)
   (h : RQ P (dsts ops) k ops.toList st (Q .normal)) : SW P (.region id ops true) st Q := by
 refine SW.mono (Q := fun e st => match e with | .normal => Q .normal st | _ => False) (SW.drawnK0 fl k hm hk hf hfv hns (fun c st h => h) h) fun e st h => ?_
 cases e <;> first | exact h | exact h.elim
end
end Go.Pm
end
section
namespace Go.Pm
open Go.RowKit
end Go.Pm
end
end

section
namespace Go.Proofs.YtdldgbkdcpdbeaaGreat
open Go.Pm
open Go.Gm (Ev Gr)
def DD (g : Gr) : List (Int × Int) := depM g.events (Gm.depthsE g.events) g.events.length
theorem lookD_dep {evs : List Ev} (hs : Gm.Srt evs) {dl : List Int} (hl : dl.length = evs.length) : ∀ (i k : Nat) {e : Ev} {d : Int}, k < i → evs[k]? = some e → dl[k]? = some d → lookD (depM evs dl i) e.id 0 = d
 | 0, k, e, d, h, _, _ => by omega
 | i + 1, k, e, d, h, he, hd => by
   by_cases hi : i < evs.length
   · obtain ⟨e', he'⟩ : ∃ e', evs[i]? = some e' := ⟨_, List.getElem?_eq_getElem hi⟩
     obtain ⟨d', hd'⟩ : ∃ d', dl[i]? = some d' := ⟨_, List.getElem?_eq_getElem (by omega)⟩
     have hz : (evs.zip dl)[i]? = some (e', d') := by rw [List.getElem?_zip_eq_some]; exact ⟨he', hd'⟩
     have hnx : depM evs dl (i + 1) = putK (depM evs dl i) e'.id d' := by
       unfold depM
       rw [List.take_add_one, hz, Option.toList_some, List.foldl_append]; rfl
     rw [hnx, lookD_put]
     by_cases hki : k = i
     · subst hki
       rw [he] at he'; injection he' with he'
       rw [hd] at hd'; injection hd' with hd'
       rw [he', if_pos rfl, hd']
     · have hlt : e.id < e'.id := Gm.pw_get hs (by omega : k < i) he he'
       rw [if_neg (by omega)]
       exact lookD_dep hs hl i k (by omega) he hd
   · have hz : (evs.zip dl)[i]? = none := by rw [List.getElem?_eq_none]; rw [List.length_zip]; omega
     have hkl := (List.getElem?_eq_some_iff.1 he).1
     have hnx : depM evs dl (i + 1) = depM evs dl i := by
       unfold depM
       rw [List.take_add_one, hz, Option.toList_none, List.append_nil]
     rw [hnx]
     exact lookD_dep hs hl i k (by omega) he hd
theorem evOf_at {g : Gr} {a : Int} (h : Gm.hasId g.events a = true) : ∃ e, g.events[Gm.fidE g.events a]? = some e ∧ evOf g a = e ∧ e.id = a := by
 obtain ⟨e, h1, h2⟩ := Gm.fid_get h
 refine ⟨e, h1, ?_, h2⟩
 unfold evOf
 rw [← fid_at h, h1]; rfl
theorem DD_at {g : Gr} (h : GG g) {a : Int} (ha : Gm.hasId g.events a = true) : ∃ d, (Gm.depthsE g.events)[Gm.fidE g.events a]? = some d ∧ lookD (DD g) (evOf g a).id 0 = d := by
 obtain ⟨e, h1, h2, h3⟩ := evOf_at ha
 have hl := Gm.fid_lt ha
 have hdl := (Gm.depths_ok g.events).len
 refine ⟨_, List.getElem?_eq_getElem (by omega), ?_⟩
 rw [h2]
 exact lookD_dep h.srt hdl _ _ hl h1 (List.getElem?_eq_getElem (by omega))
theorem lessB_eq {D : List (Int × Int)} {x y : Ev} : decide (cmpD D x y < 0) = if firstE x != firstE y then firstE x else if lookD D x.id 0 != lookD D y.id 0 then decide (lookD D x.id 0 < lookD D y.id 0) else if x.time != y.time then decide (x.time < y.time) else decide (x.id < y.id) := by
 rw [Bool.eq_iff_iff, decide_eq_true_eq, cmpD_iff]
 unfold fk
 have hsame : ∀ b : Bool, ((if b then (0 : Int) else 1) < (if b then 0 else 1)) = False := fun b => by cases b <;> simp
 have hb : ∀ b : Bool, (b != b) = false := fun b => by cases b <;> rfl
 have key : (lookD D x.id 0 < lookD D y.id 0 ∨ lookD D x.id 0 = lookD D y.id 0 ∧ (x.time < y.time ∨ x.time = y.time ∧ x.id < y.id)) ↔ (if (lookD D x.id 0 != lookD D y.id 0) = true then decide (lookD D x.id 0 < lookD D y.id 0) else if (x.time != y.time) = true then decide (x.time < y.time) else decide (x.id < y.id)) = true := by
   by_cases h1 : lookD D x.id 0 = lookD D y.id 0
   · rw [if_neg (by simp [h1])]
     by_cases h2 : x.time = y.time
     · rw [if_neg (by simp [h2]), decide_eq_true_eq]; omega
     · rw [if_pos (by simp [h2]), decide_eq_true_eq]; omega
   · rw [if_pos (by simp [h1]), decide_eq_true_eq]; omega
 cases hx : firstE x <;> cases hy : firstE y
 · rw [if_neg (c := (false != false) = true) (by decide), ← key]; simp
 · simp
 · simp
 · rw [if_neg (c := (true != true) = true) (by decide), ← key]; simp
section
variable {P : Program} [Is P]
theorem c_l06Heavy (e : Ev) : Con P 128 [.agg (encEv e)] (.bool (firstE e)) := by
 refine Con.of (n := 28) (rs := [.tmp 2]) (Is.fn Tryz.func128) rfl (Is.call Tryz.call128) Tryz.results128 Tryz.ntmps128 trivial ?_
 simp only [method_specs_simp, seval]
 simp only [method_specs_simp, seval, encEv]
 unfold firstE
 cases e.kind == 1 <;> cases e.kind == 3 <;> cases e.kind == 5 <;> cases e.kind == 2 <;> simp [method_specs_simp]
theorem c_l06Less (g : Gr) (h : GG g) (a b : Int) (ha : Gm.hasId g.events a = true) (hb : Gm.hasId g.events b = true) : Con P 87 [.agg (encGr g), .sl 1 ((Gm.depthsE g.events).map encI), .int .i64 a, .int .i64 b] (.bool (decide (cmpD (DD g) (evOf g a) (evOf g b) < 0))) := by
 have h60 := h.n
 obtain ⟨x, hx1, hx2, hx3⟩ := evOf_at ha
 obtain ⟨y, hy1, hy2, hy3⟩ := evOf_at hb
 obtain ⟨da, hda1, hda2⟩ := DD_at h ha
 obtain ⟨db, hdb1, hdb2⟩ := DD_at h hb
 have hal := Gm.fid_lt ha
 have hbl := Gm.fid_lt hb
 have hdl := (Gm.depths_ok g.events).len
 have hai : atI g.events a = ((Gm.fidE g.events a : Nat) : Int) := atI_yes ha
 have hbi : atI g.events b = ((Gm.fidE g.events b : Nat) : Int) := atI_yes hb
 obtain ⟨i, hi⟩ : ∃ i, i = Gm.fidE g.events a := ⟨_, rfl⟩
 obtain ⟨j, hj⟩ : ∃ j, j = Gm.fidE g.events b := ⟨_, rfl⟩
 obtain ⟨dl, hdd⟩ : ∃ dl, dl = Gm.depthsE g.events := ⟨_, rfl⟩
 rw [← hi] at hx1 hda1 hal hai
 rw [← hj] at hy1 hdb1 hbl hbi
 rw [← hdd] at hda1 hdb1 hdl ⊢
 rw [hx2] at hda2
 rw [hy2] at hdb2
 rw [hx2, hy2]
 refine Con.ofS (n := 74) (rs := [.tmp 8]) (Is.fn Tryz.func87) rfl (Is.call Tryz.call87) Tryz.results87 Tryz.ntmps87 trivial ?_
 refine SW.seq (CW.sound ?_)
 simp only [method_specs_simp, seval, encGr, encEv]
 refine SW.seq (CW.sound ?_)
 simp only [method_specs_simp, seval, encGr, encEv]
 refine ⟨by kernel_rfl, ?_⟩
 refine clY.con (c_l03At g.events a (by omega)) (by simp only [method_specs_simp, encGr, encEv]) ?_
 simp only [method_specs_simp, seval, encGr, encEv, hai]
 refine clY.con (c_l03At g.events b (by omega)) (by simp only [method_specs_simp, encGr, encEv]) ?_
 simp only [method_specs_simp, seval, encGr, encEv, hbi]
 refine SW.freeze [0] ?_
 simp only [mvcgen_simp, method_specs_simp, seval, encGr, encEv, convs_r8j, conv_junkj]
 refine SW.seq (SW.drawnK [5, 6, 7, 8, 9] 12 mixed (by kernel_rfl) (by kernel_rfl) (by kernel_rfl) ?_ ?_)
 · simp only [method_specs_simp, seval, encGr, encEv, List.getElem?_cons_succ, List.getElem?_cons_zero, hy1]
   exact ⟨by omega, by omega, by omega⟩
 show RQi P _ _ _ _ _
 simp only [method_specs_simp, seval, encGr, encEv, hx1, hy1]
 refine ⟨by omega, by omega, by omega, by omega, ?_⟩
 rw [lessB_eq, hda2, hdb2]
 refine CW.sound ?_
 simp only [method_specs_simp, seval, encGr, encEv, Bool.bne_true, Bool.bne_false]
 refine ⟨by kernel_rfl, ?_⟩
 refine clY.con (c_l06Heavy x) (by simp only [method_specs_simp, encGr, encEv, Bool.bne_true, Bool.bne_false]) ?_
 simp only [method_specs_simp, seval, encGr, encEv, Bool.bne_true, Bool.bne_false]
 refine clY.con (c_l06Heavy y) (by simp only [method_specs_simp, encGr, encEv, Bool.bne_true, Bool.bne_false]) ?_
 simp only [method_specs_simp, seval, encGr, encEv, Bool.bne_true, Bool.bne_false]
 cases hfx : firstE x <;> cases hfy : firstE y
 case false.true =>
   simp only [method_specs_simp, seval, encGr, encEv, Bool.bne_true, Bool.bne_false]
   refine clY.con (c_l06Heavy x) (by simp only [method_specs_simp, encGr, encEv, Bool.bne_true, Bool.bne_false]) ?_
   simp only [method_specs_simp, seval, encGr, encEv, Bool.bne_true, Bool.bne_false, hfx]
 case true.false =>
   simp only [method_specs_simp, seval, encGr, encEv, Bool.bne_true, Bool.bne_false]
   refine clY.con (c_l06Heavy x) (by simp only [method_specs_simp, encGr, encEv, Bool.bne_true, Bool.bne_false]) ?_
   simp only [method_specs_simp, seval, encGr, encEv, Bool.bne_true, Bool.bne_false, hfx]
 all_goals
   simp only [method_specs_simp, seval, encGr, encEv, Bool.bne_true, Bool.bne_false, hda1, hdb1, encI]
   refine ⟨by kernel_rfl, by omega, by omega, by omega, by omega, ?_⟩
   cases k1 : (da != db)
   · simp only [method_specs_simp, seval, encGr, encEv, Bool.bne_true, Bool.bne_false, k1]
     cases k2 : (x.time != y.time)
     · simp only [method_specs_simp, seval, encGr, encEv, Bool.bne_true, Bool.bne_false, k2]
     · simp only [method_specs_simp, seval, encGr, encEv, Bool.bne_true, Bool.bne_false, k2]
   · simp only [method_specs_simp, seval, encGr, encEv, Bool.bne_true, Bool.bne_false, k1, hda1, hdb1, encI]
     exact ⟨by kernel_rfl, by omega, by omega, by omega, by omega⟩
end
end Go.Proofs.YtdldgbkdcpdbeaaGreat
end

section
namespace Go.Proofs.YtdldgbkdcpdbeaaGreat
open Go.Pm
open Go.Gm (Ev Gr)
theorem GG.ids {g : Gr} (h : GG g) : ∀ e ∈ g.events, 0 < e.id := fun e he => by
 have := h.ev e he
 simp only [Gm.evRight, Bool.and_eq_true, Gm.isB_iff] at this
 omega
theorem SG.idpos {g : Gr} {s : List Ent} (h : GG g) (hs : SG g s) : ∀ x ∈ s, 0 < x.id := fun x hx => by
 obtain ⟨e, he, h1⟩ := (entOf_iff h).1 (hs.has x hx)
 have := h.ids e he
 have h2 : (entE e).id = x.id := by rw [h1]
 have h3 : e.id = x.id := h2
 omega
theorem ent_same {g : Gr} (h : GG g) {x y : Ent} (hx : entOf g x = true) (hy : entOf g y = true) (hid : x.id = y.id) : x = y := by
 obtain ⟨e1, he1, h1⟩ := (entOf_iff h).1 hx
 obtain ⟨e2, he2, h2⟩ := (entOf_iff h).1 hy
 have a1 : (entE e1).id = x.id := by rw [h1]
 have a2 : (entE e2).id = y.id := by rw [h2]
 have a3 : e1.id = e2.id := a1.trans (hid.trans a2.symm)
 have := at_mem h.srt he1
 rw [a3, at_mem h.srt he2] at this
 injection this with this
 rw [← h1, ← h2, this]
theorem srt_key {s : List Ent} (hs : s.Pairwise ltE) {x y : Ent} (hx : x ∈ s) (hy : y ∈ s) (h1 : x.kind = y.kind) (h2 : x.key = y.key) : x = y := by
 obtain ⟨i, hi⟩ := List.getElem?_of_mem hx
 obtain ⟨j, hj⟩ := List.getElem?_of_mem hy
 rcases Nat.lt_trichotomy i j with h | h | h
 · have := Gm.pw_get hs h hi hj
   unfold ltE at this; omega
 · subst h; rw [hi] at hj; injection hj
 · have := Gm.pw_get hs h hj hi
   unfold ltE at this; omega
theorem SG.LS {g : Gr} {s : List Ent} (h : GG g) (hs : SG g s) : LS g s := by
 refine ⟨⟨h.hx, h.srt, by have := SG.len h hs; omega, hs.srt⟩, fun k q => ?_⟩
 unfold idS curE idS
 cases hf : s.find? (isK k q) with
 | none =>
   refine Or.inl ⟨rfl, ?_⟩
   show atE g.events 0 = none
   refine List.find?_eq_none.2 fun e he => ?_
   have := h.ids e he
   simp only [beq_iff_eq]
   omega
 | some x =>
   have h1 := List.mem_of_find?_eq_some hf
   obtain ⟨e, he, h2⟩ := (entOf_iff h).1 (hs.has x h1)
   have h3 : (entE e).id = x.id := by rw [h2]
   refine Or.inr ⟨hs.idpos h x h1, ?_⟩
   show Gm.hasId g.events x.id = true
   rw [← h3]
   exact has_mem he
def alkS (l : List (List Ent)) (x : Ent) : Bool := l.all fun s => idS s x.kind x.key == x.id
theorem idS_in {s : List Ent} (hs : s.Pairwise ltE) {x : Ent} (hx : x.id ≠ 0) : (idS s x.kind x.key == x.id) = s.any (entEq x) := by
 rw [Bool.eq_iff_iff, beq_iff_eq, List.any_eq_true]
 unfold idS
 cases hf : s.find? (isK x.kind x.key) with
 | none =>
   constructor
   · intro h; exact absurd h.symm hx
   · rintro ⟨y, hy, h⟩
     have e := entEq_iff.1 h
     subst e
     have := List.find?_eq_none.1 hf x hy
     simp [isK] at this
 | some y =>
   have h1 := List.mem_of_find?_eq_some hf
   have h2 := List.find?_some hf
   unfold isK at h2
   simp only [Bool.and_eq_true, beq_iff_eq] at h2
   constructor
   · intro h
     refine ⟨y, h1, entEq_iff.2 ?_⟩
     obtain ⟨a, b, c⟩ := x
     obtain ⟨a', b', c'⟩ := y
     simp only at h h2
     rw [h, h2.1, h2.2]
   · rintro ⟨z, hz, h⟩
     have e := entEq_iff.1 h
     subst e
     have := srt_key hs h1 hz h2.1 h2.2
     rw [this]
theorem alk_miss {l : List (List Ent)} (hs : ∀ s ∈ l, s.Pairwise ltE) {x : Ent} (hx : x.id ≠ 0) : alkS l x = !missS l x := by
 unfold alkS missS
 rw [Bool.eq_iff_iff, List.all_eq_true, Bool.not_eq_true', List.any_eq_false]
 constructor
 · intro h s hm
   have := h s hm
   rw [idS_in (hs s hm) hx] at this
   simp [this]
 · intro h s hm
   rw [idS_in (hs s hm) hx]
   have := h s hm
   simpa using this
theorem miss_iff {l : List (List Ent)} {x : Ent} : missS l x = false ↔ ∀ s ∈ l, x ∈ s := by
 unfold missS
 rw [List.any_eq_false]
 constructor
 · intro h s hs
   have := h s hs
   simp only [Bool.not_eq_true', Bool.not_eq_false, List.any_eq_true] at this
   obtain ⟨y, hy, e⟩ := this
   rw [entEq_iff.1 e]; exact hy
 · intro h s hs
   simp only [Bool.not_eq_true', Bool.not_eq_false, List.any_eq_true]
   exact ⟨x, h s hs, entEq_iff.2 rfl⟩
def putR (o : List Ent) (x : Ent) : List Ent := putL (without o x) x
theorem putR_I {o : List Ent} (hs : o.Pairwise ltE) {x : Ent} (hx : x.id ≠ 0) : putR o x = putI o x := by
 rw [(put_same o x hs).1, putS, if_neg hx]; rfl
theorem putR_mem {o : List Ent} {x y : Ent} : y ∈ putR o x ↔ y = x ∨ (y ∈ o ∧ otherK x y = true) := by
 unfold putR putL
 have h1 : ∀ L : List Ent, ∀ k, y ∈ L.take k ++ x :: L.drop k ↔ y = x ∨ y ∈ L := fun L k => by
   conv => rhs; rw [← List.take_append_drop k L]
   simp only [List.mem_append, List.mem_cons]
   constructor
   · rintro (h | h | h)
     · exact .inr (.inl h)
     · exact .inl h
     · exact .inr (.inr h)
   · rintro (h | h | h)
     · exact .inr (.inl h)
     · exact .inl h
     · exact .inr (.inr h)
 rw [h1]
 unfold without
 rw [List.mem_filter]
theorem putR_len (o : List Ent) (x : Ent) : (putR o x).length ≤ o.length + 1 := by
 have h1 : (without o x).length ≤ o.length := List.length_filter_le _ _
 have h2 := lessN_le (without o x) x
 unfold putR putL
 simp only [List.length_append, List.length_cons, List.length_take, List.length_drop]
 omega
def stepA (l : List (List Ent)) (o : List Ent) (x : Ent) : List Ent := if alkS l x then putR o x else o
def stepB (l : List (List Ent)) (s : List Int) (x : Ent) : List Int := if alkS l x then s else setI s x.id
def outA (l : List (List Ent)) (p : List Ent) : List Ent := p.foldl (stepA l) []
def idsA (l : List (List Ent)) (p : List Ent) : List Int := p.foldl (stepB l) []
theorem outA_len (l : List (List Ent)) : ∀ (p o : List Ent), (p.foldl (stepA l) o).length ≤ o.length + p.length
 | [], o => Nat.le_refl _
 | x :: p, o => by
   have h1 : (stepA l o x).length ≤ o.length + 1 := by
     unfold stepA
     split
     · exact putR_len o x
     · omega
   have h2 := outA_len l p (stepA l o x)
   simp only [List.foldl_cons, List.length_cons]
   omega
theorem idsA_len (l : List (List Ent)) : ∀ (p : List Ent) (o : List Int), (p.foldl (stepB l) o).length ≤ o.length + p.length
 | [], o => Nat.le_refl _
 | x :: p, o => by
   have h1 : (stepB l o x).length ≤ o.length + 1 := by
     unfold stepB
     split
     · omega
     · exact setI_len o x.id
   have h2 := idsA_len l p (stepB l o x)
   simp only [List.foldl_cons, List.length_cons]
   omega
theorem ltE_str : Gm.Str ltE := ⟨fun x h => by unfold ltE at h; omega, fun x y z h1 h2 => ltE_trans h1 h2⟩
theorem ltE_nodup {l : List Ent} (h : l.Pairwise ltE) : l.Nodup := List.Pairwise.imp (fun h => ltE_ne h) h
theorem srt_same {l1 l2 : List Ent} (h1 : l1.Pairwise ltE) (h2 : l2.Pairwise ltE) (h : ∀ x, x ∈ l1 ↔ x ∈ l2) : l1 = l2 :=
 Gm.sorted_one ltE_str ((List.perm_ext_iff_of_nodup (ltE_nodup h1) (ltE_nodup h2)).2 h) h1 h2
section
variable {g : Gr} {l : List (List Ent)} (h : GG g) (hs : ∀ s ∈ l, SG g s)
include h hs
theorem flat_ent {x : Ent} (hx : x ∈ l.flatten) : entOf g x = true ∧ x.id ≠ 0 := by
 obtain ⟨s, hm, hxs⟩ := List.mem_flatten.1 hx
 have := (hs s hm).idpos h x hxs
 exact ⟨(hs s hm).has x hxs, by omega⟩
theorem alk_iff {x : Ent} (hx : x ∈ l.flatten) : alkS l x = true ↔ ∀ s ∈ l, x ∈ s := by
 rw [alk_miss (fun s hm => (hs s hm).srt) (flat_ent h hs hx).2, Bool.not_eq_true', miss_iff]
theorem outA_ok : ∀ (p o : List Ent), (∀ x ∈ p, x ∈ l.flatten) → o.Pairwise ltE → (∀ y ∈ o, y ∈ l.flatten ∧ alkS l y = true) →
   (p.foldl (stepA l) o).Pairwise ltE ∧ ∀ y, y ∈ p.foldl (stepA l) o ↔ y ∈ o ∨ (y ∈ p ∧ alkS l y = true)
 | [], o, _, ho, _ => ⟨ho, fun y => by simp⟩
 | x :: p, o, hp, ho, hoa => by
   have hx := hp x List.mem_cons_self
   have hstep : (stepA l o x).Pairwise ltE ∧ ∀ y, y ∈ stepA l o x ↔ y ∈ o ∨ (y = x ∧ alkS l y = true) := by
     unfold stepA
     split
     · rename_i ha
       refine ⟨by rw [putR_I ho (flat_ent h hs hx).2]; exact (put_same o x ho).2, fun y => ?_⟩
       rw [putR_mem]
       constructor
       · rintro (rfl | ⟨h1, _⟩)
         · exact .inr ⟨rfl, ha⟩
         · exact .inl h1
       · rintro (h1 | ⟨rfl, _⟩)
         · by_cases hk : otherK x y = true
           · exact .inr ⟨h1, hk⟩
           · left
             obtain ⟨g1, g2⟩ := hoa y h1
             obtain ⟨s, hm, hxs⟩ := List.mem_flatten.1 hx
             have hys := (alk_iff h hs g1).1 g2 s hm
             simp only [otherK, Bool.or_eq_true, bne_iff_ne, ne_eq, not_or, Decidable.not_not] at hk
             exact srt_key (hs s hm).srt hys hxs hk.1 hk.2
         · exact .inl rfl
     · rename_i ha
       refine ⟨ho, fun y => ⟨.inl, ?_⟩⟩
       rintro (h1 | ⟨rfl, h2⟩)
       · exact h1
       · exact absurd h2 ha
   obtain ⟨h1, h2⟩ := hstep
   obtain ⟨h3, h4⟩ := outA_ok p (stepA l o x) (fun y hy => hp y (List.mem_cons_of_mem _ hy)) h1 (fun y hy => by
     rcases (h2 y).1 hy with h | ⟨rfl, h⟩
     · exact hoa y h
     · exact ⟨hx, h⟩)
   refine ⟨h3, fun y => ?_⟩
   show y ∈ p.foldl (stepA l) (stepA l o x) ↔ _
   rw [h4, h2, List.mem_cons]
   constructor
   · rintro ((h | h) | h)
     · exact .inl h
     · exact .inr ⟨.inl h.1, h.2⟩
     · exact .inr ⟨.inr h.1, h.2⟩
   · rintro (h | ⟨h | h, k⟩)
     · exact .inl (.inl h)
     · exact .inl (.inr ⟨h, k⟩)
     · exact .inr ⟨h, k⟩
theorem com_mem {y : Ent} : y ∈ com l ↔ y ∈ l.flatten ∧ alkS l y = true := by
 constructor
 · intro hy
   have hf : y ∈ l.flatten ∧ missS l y = false := by
     unfold com at hy
     split at hy
     · cases hy
     · rename_i s l'
       obtain ⟨h1, h2⟩ := List.mem_filter.1 hy
       exact ⟨List.mem_flatten.2 ⟨s, List.mem_cons_self, h1⟩, by simpa using h2⟩
   exact ⟨hf.1, (alk_iff h hs hf.1).2 (miss_iff.1 hf.2)⟩
 · rintro ⟨h1, h2⟩
   have h3 := (alk_iff h hs h1).1 h2
   unfold com
   split
   · simp at h1
   · rename_i s l'
     exact List.mem_filter.2 ⟨h3 s List.mem_cons_self, by rw [miss_iff.2 h3]; rfl⟩
theorem outA_com : outA l l.flatten = com l := by
 obtain ⟨h1, h2⟩ := outA_ok h hs l.flatten [] (fun x hx => hx) List.Pairwise.nil (fun y hy => by cases hy)
 have hc : (com l).Pairwise ltE := by
   unfold com
   split
   · exact List.Pairwise.nil
   · rename_i s l'
     exact (hs s List.mem_cons_self).srt.sublist List.filter_sublist
 refine srt_same h1 hc fun y => ?_
 rw [com_mem h hs]
 show y ∈ l.flatten.foldl (stepA l) [] ↔ _
 rw [h2]
 simp
end
theorem idsA_ok {l : List (List Ent)} : ∀ (p : List Ent) (o : List Int), Rise o → Rise (p.foldl (stepB l) o) ∧ ∀ z, z ∈ p.foldl (stepB l) o ↔ z ∈ o ∨ ∃ x ∈ p, alkS l x = false ∧ x.id = z
 | [], o, ho => ⟨ho, fun z => by simp⟩
 | x :: p, o, ho => by
   have hstep : Rise (stepB l o x) ∧ ∀ z, z ∈ stepB l o x ↔ z ∈ o ∨ (alkS l x = false ∧ x.id = z) := by
     unfold stepB
     cases ha : alkS l x with
     | true => exact ⟨ho, fun z => by simp⟩
     | false =>
       refine ⟨setI_rise ho, fun z => ?_⟩
       simp only [Bool.false_eq_true, if_false, true_and]
       rw [setI_mem ho]
       constructor
       · rintro (h | h)
         · exact .inr h.symm
         · exact .inl h
       · rintro (h | h)
         · exact .inr h
         · exact .inl h.symm
   obtain ⟨h3, h4⟩ := idsA_ok p (stepB l o x) hstep.1
   refine ⟨h3, fun z => ?_⟩
   show z ∈ p.foldl (stepB l) (stepB l o x) ↔ _
   rw [h4, hstep.2]
   constructor
   · rintro ((h | h) | ⟨y, hy, h⟩)
     · exact .inl h
     · exact .inr ⟨x, List.mem_cons_self, h⟩
     · exact .inr ⟨y, List.mem_cons_of_mem _ hy, h⟩
   · rintro (h | ⟨y, hy, h⟩)
     · exact .inl (.inl h)
     · rcases List.mem_cons.1 hy with rfl | hy
       · exact .inl (.inr h)
       · exact .inr ⟨y, hy, h⟩
theorem metP_mem {met : List Int} {k z : Int} : z ∈ metP met k ↔ z ∈ met ∨ z = k := by
 unfold metP
 split
 · rename_i h
   have h := List.contains_iff_mem.1 h
   exact ⟨.inl, fun q => q.elim id fun e => e ▸ h⟩
 · simp
theorem idsM_mem : ∀ (l : List Ent) (met : List Int) {z : Int}, z ∈ l.foldl (fun m x => metP m x.id) met ↔ z ∈ met ∨ ∃ x ∈ l, x.id = z
 | [], met, z => by simp
 | x :: l, met, z => by
   rw [List.foldl_cons, idsM_mem l, metP_mem]
   constructor
   · rintro ((h | h) | ⟨y, hy, h⟩)
     · exact .inl h
     · exact .inr ⟨x, List.mem_cons_self, h.symm⟩
     · exact .inr ⟨y, List.mem_cons_of_mem _ hy, h⟩
   · rintro (h | ⟨y, hy, h⟩)
     · exact .inl (.inl h)
     · rcases List.mem_cons.1 hy with rfl | hy
       · exact .inl (.inr h.symm)
       · exact .inr ⟨y, hy, h⟩
theorem othI_mem : ∀ (l : List Ent) (met : List Int) {z : Int}, z ∈ othI met l ↔ z ∉ met ∧ ∃ x ∈ l, x.id = z
 | [], met, z => by simp [othI]
 | x :: l, met, z => by
   simp only [othI]
   split
   · rename_i hc
     have hc := List.contains_iff_mem.1 hc
     rw [othI_mem l]
     constructor
     · rintro ⟨h1, y, hy, h⟩
       exact ⟨h1, y, List.mem_cons_of_mem _ hy, h⟩
     · rintro ⟨h1, y, hy, h⟩
       rcases List.mem_cons.1 hy with rfl | hy
       · exact absurd (h ▸ hc) h1
       · exact ⟨h1, y, hy, h⟩
   · rename_i hc
     have hc : x.id ∉ met := fun q => hc (List.contains_iff_mem.2 q)
     rw [List.mem_cons, othI_mem l]
     constructor
     · rintro (rfl | ⟨h1, y, hy, h⟩)
       · exact ⟨hc, x, List.mem_cons_self, rfl⟩
       · exact ⟨fun q => h1 (List.mem_append_left _ q), y, List.mem_cons_of_mem _ hy, h⟩
     · rintro ⟨h1, y, hy, h⟩
       by_cases hz : z = x.id
       · exact .inl hz
       · refine .inr ⟨fun q => ?_, ?_⟩
         · rcases List.mem_append.1 q with q | q
           · exact h1 q
           · exact hz (by simpa using q)
         · rcases List.mem_cons.1 hy with rfl | hy
           · exact absurd h.symm hz
           · exact ⟨y, hy, h⟩
def posB (lt : Int → Int → Bool) (o : List Int) (x : Int) : Nat → Nat
 | 0 => 0
 | k + 1 => if lt x (o.getD k 0) then posB lt o x k else k + 1
def insB (lt : Int → Int → Bool) (o : List Int) (x : Int) : List Int := o.take (posB lt o x o.length) ++ x :: o.drop (posB lt o x o.length)
theorem posB_le (lt : Int → Int → Bool) (o : List Int) (x : Int) : ∀ k, posB lt o x k ≤ k
 | 0 => Nat.le_refl _
 | k + 1 => by
   unfold posB
   split
   · have := posB_le lt o x k; omega
   · exact Nat.le_refl _
theorem posB_ok (lt : Int → Int → Bool) (o : List Int) (x : Int) : ∀ k, (∀ j, posB lt o x k ≤ j → j < k → lt x (o.getD j 0) = true) ∧ (posB lt o x k = 0 ∨ lt x (o.getD (posB lt o x k - 1) 0) = false)
 | 0 => ⟨fun j h1 h2 => by omega, .inl rfl⟩
 | k + 1 => by
   unfold posB
   cases hl : lt x (o.getD k 0) with
   | true =>
     simp only [if_true]
     obtain ⟨h1, h2⟩ := posB_ok lt o x k
     refine ⟨fun j h3 h4 => ?_, h2⟩
     by_cases hj : j = k
     · rw [hj]; exact hl
     · exact h1 j h3 (by omega)
   | false =>
     simp only [Bool.false_eq_true, if_false]
     exact ⟨fun j h1 h2 => by omega, .inr hl⟩
theorem insB_perm (lt : Int → Int → Bool) (o : List Int) (x : Int) : (insB lt o x).Perm (x :: o) := by
 unfold insB
 refine List.perm_middle.trans (List.Perm.cons x ?_)
 rw [List.take_append_drop]
theorem insB_len (lt : Int → Int → Bool) (o : List Int) (x : Int) : (insB lt o x).length = o.length + 1 := by
 rw [(insB_perm lt o x).length_eq]; rfl
theorem insB_sorted {lt : Int → Int → Bool} {o : List Int} {x : Int} (hnt : ∀ a b c, lt a b = false → lt b c = false → lt a c = false) (has : ∀ a b, lt a b = true → lt b a = false) (ho : o.Pairwise fun a b => lt b a = false) :
   (insB lt o x).Pairwise fun a b => lt b a = false := by
 obtain ⟨h1, h2⟩ := posB_ok lt o x o.length
 have hle := posB_le lt o x o.length
 unfold insB
 generalize posB lt o x o.length = k at *
 have hb : ∀ y ∈ o.take k, lt x y = false := by
   intro y hy
   obtain ⟨j, hj, hjy⟩ := Gm.mem_take_get hy
   rcases h2 with h2 | h2
   · omega
   · by_cases hjk : j = k - 1
     · rw [← hjk, List.getD_eq_getElem?_getD, hjy] at h2
       exact h2
     · obtain ⟨z, hz⟩ : ∃ z, o[k - 1]? = some z := ⟨_, List.getElem?_eq_getElem (by omega)⟩
       rw [List.getD_eq_getElem?_getD, hz] at h2
       have h3 := Gm.pw_get ho (by omega : j < k - 1) hjy hz
       exact hnt x z y h2 h3
 have ha : ∀ y ∈ o.drop k, lt y x = false := by
   intro y hy
   obtain ⟨j, hj, hjy⟩ := Gm.mem_drop_get hy
   have h3 := h1 j hj (List.getElem?_eq_some_iff.1 hjy).1
   rw [List.getD_eq_getElem?_getD, hjy] at h3
   exact has x y h3
 refine List.pairwise_append.2 ⟨ho.sublist (List.take_sublist _ _), List.pairwise_cons.2 ⟨ha, ho.sublist (List.drop_sublist _ _)⟩, fun y hy z hz => ?_⟩
 rcases List.mem_cons.1 hz with rfl | hz
 · exact hb y hy
 · obtain ⟨i, hi, hiy⟩ := Gm.mem_take_get hy
   obtain ⟨j, hj, hjz⟩ := Gm.mem_drop_get hz
   exact Gm.pw_get ho (by omega : i < j) hiy hjz
def ltS (g : Gr) (a b : Int) : Bool := decide (cmpD (DD g) (evOf g a) (evOf g b) < 0)
def ordS (g : Gr) (ids : List Int) : List Int := ids.foldl (insB (ltS g)) []
theorem ordS_ok (g : Gr) : ∀ (ids o : List Int), (o.Pairwise fun a b => ltS g b a = false) → ((ids.foldl (insB (ltS g)) o).Pairwise fun a b => ltS g b a = false) ∧ (ids.foldl (insB (ltS g)) o).Perm (ids ++ o)
 | [], o, ho => ⟨ho, List.Perm.refl _⟩
 | x :: ids, o, ho => by
   have h1 := insB_sorted (lt := ltS g) (o := o) (x := x) (fun a b c h1 h2 => by
     simp only [ltS, decide_eq_false_iff_not] at *
     exact cmpD_nt h1 h2) (fun a b h1 => by
     simp only [ltS, decide_eq_false_iff_not, decide_eq_true_eq] at *
     exact fun h2 => cmpD_irr _ _ (cmpD_tr h1 h2)) ho
   obtain ⟨h2, h3⟩ := ordS_ok g ids (insB (ltS g) o x) h1
   refine ⟨h2, h3.trans ?_⟩
   refine ((insB_perm (ltS g) o x).append_left ids).trans ?_
   exact List.perm_middle
theorem ordS_ev {g : Gr} {l : List (List Ent)} (h : GG g) (hs : ∀ s ∈ l, SG g s) (hl : SL g l) : (ordS g (idsA l l.flatten)).map (evOf g) = ordR (DD g) (othE g l) := by
 obtain ⟨h1, h2⟩ := ordS_ok g (idsA l l.flatten) [] List.Pairwise.nil
 obtain ⟨h3, h4⟩ := idsA_ok (l := l) l.flatten [] List.Pairwise.nil
 have hnd : (idsA l l.flatten).Nodup := h3.nodup
 have hpm : (idsA l l.flatten).Perm (othI (idsM (com l)) l.flatten) := by
   refine (List.perm_ext_iff_of_nodup hnd (othI_spec _ _).1).2 fun z => ?_
   rw [othI_mem]
   show z ∈ l.flatten.foldl (stepB l) [] ↔ _
   rw [h4]
   have hcm : z ∈ idsM (com l) ↔ ∃ x ∈ com l, x.id = z := by
     unfold idsM
     rw [idsM_mem]
     simp
   rw [hcm]
   constructor
   · rintro (h | ⟨x, hx, ha, hz⟩)
     · cases h
     · refine ⟨?_, x, hx, hz⟩
       rintro ⟨c, hc, hcz⟩
       obtain ⟨c1, c2⟩ := (com_mem h hs).1 hc
       have := ent_same h (flat_ent h hs hx).1 (flat_ent h hs c1).1 (hz.trans hcz.symm)
       rw [this, c2] at ha
       cases ha
   · rintro ⟨h5, x, hx, hz⟩
     refine .inr ⟨x, hx, ?_, hz⟩
     cases ha : alkS l x with
     | false => rfl
     | true => exact absurd ⟨x, (com_mem h hs).2 ⟨hx, ha⟩, hz⟩ h5
 refine ordR_uniq (othE_nodup hl) ?_ ?_
 · unfold othE
   rw [List.append_nil] at h2
   exact (h2.trans hpm).map (evOf g)
 · rw [List.pairwise_map]
   refine List.Pairwise.imp (fun {a b} hab => ?_) h1
   simpa [ltS] using hab
theorem ordS_has {g : Gr} {l : List (List Ent)} (h : GG g) (hs : ∀ s ∈ l, SG g s) : ∀ id ∈ idsA l l.flatten, Gm.hasId g.events id = true := fun id hid => by
 obtain ⟨h3, h4⟩ := idsA_ok (l := l) l.flatten [] List.Pairwise.nil
 rcases (h4 id).1 hid with h5 | ⟨x, hx, _, rfl⟩
 · cases h5
 · obtain ⟨e, he, h6⟩ := (entOf_iff h).1 (flat_ent h hs hx).1
   have : e.id = x.id := by rw [← h6]; rfl
   rw [← this]
   exact has_mem he
section
variable {P : Program} [Is P]
theorem c_l06Alike (l : List (List Ent)) (x : Ent) (hl : l.length ≤ 60) (hs : ∀ s ∈ l, s.length ≤ 400) : Con P 85 [.sl 1 (l.map encSS), .agg (encEnt x)] (.bool (alkS l x)) := by
 refine Con.of (n := 24) (rs := [.tmp 4]) (Is.fn Tryz.func85) rfl (Is.call Tryz.call85) Tryz.results85 Tryz.ntmps85 trivial ?_
 simp only [method_specs_simp, seval, encEnt, encSS]
 refine SW.while (A := Nat) (fun i => ⟨pad 24 [.sl 1 (l.map encSS), .junk, .junk, .ptr 0 0, .bool false, .int .i64 i], [.box true (encEnt x)], []⟩) (fun i => l.length - i) (fun i => i ≤ l.length ∧ alkS l x = alkS (l.drop i) x) 0 [0] ⟨Nat.zero_le _, rfl⟩ ?_ ?_
 · simp only [mvcgen_simp, method_specs_simp, seval, encEnt, encSS]
 · rintro i ⟨hi, hr⟩
   have w1 : IntKind.i64.wrap ((i : Int) + 1) = ((i + 1 : Nat) : Int) := wadd1 i (by omega)
   refine CW.sound ?_
   simp only [method_specs_simp, seval, encEnt, encSS]
   refine gB_split (fun h1 => ?_) (fun h1 => ?_)
   · simp only [decide_eq_true_eq, Int.ofNat_lt] at h1
     obtain ⟨s, hsi⟩ : ∃ s, l[i]? = some s := ⟨_, List.getElem?_eq_getElem h1⟩
     have hsl := hs s (List.mem_of_getElem? hsi)
     simp only [method_specs_simp, seval, encEnt, encSS, hsi]
     refine ⟨by kernel_rfl, by omega, by omega, ?_⟩
     refine clY.con (c_l04At s x.kind x.key (by omega)) (by simp only [method_specs_simp, encEnt, encSS]) ?_
     simp only [method_specs_simp, seval, encEnt, encSS]
     have hcs : alkS (l.drop i) x = ((idS s x.kind x.key == x.id) && alkS (l.drop (i + 1)) x) := by rw [drop_cons hsi]; rfl
     cases hb : (idS s x.kind x.key == x.id) with
     | true =>
       have hb2 : (idS s x.kind x.key != x.id) = false := by unfold bne; rw [hb]; rfl
       rw [hb, Bool.true_and] at hcs
       simp only [method_specs_simp, seval, encEnt, encSS, hb2]
       refine Again.mk (i + 1) [0] ⟨h1, hr.trans hcs⟩ (Nat.sub_lt_sub_left h1 (Nat.lt_succ_self _)) ?_
       simp only [mvcgen_simp, method_specs_simp, seval, encEnt, encSS, w1]
     | false =>
       have hb2 : (idS s x.kind x.key != x.id) = true := by unfold bne; rw [hb]; rfl
       rw [hb, Bool.false_and] at hcs
       rw [hr, hcs]
       simp only [method_specs_simp, seval, encEnt, encSS, hb2]
   · have hi2 : i = l.length := by simp only [decide_eq_false_iff_not, Bool.not_true, Int.ofNat_lt] at h1; omega
     rw [hr, hi2, List.drop_length]
     rfl
end
end Go.Proofs.YtdldgbkdcpdbeaaGreat
end

section
namespace Go.Proofs.YtdldgbkdcpdbeaaGreat
open Go.Pm
open Go.Gm (Ev Gr)
set_option maxHeartbeats 2000000
theorem preL_len {l : List (List Ent)} (hn : l.length ≤ 60) (hl : ∀ s ∈ l, s.length ≤ 400) (i : Nat) {s : List Ent} (hs : s.length ≤ 400) (j : Nat) : (preL l i s j).length ≤ 24400 := by
 have h2 := flat_len (l := l.take i) fun s hs => hl s (List.mem_of_mem_take hs)
 have h4 : (l.take i).length ≤ l.length := by rw [List.length_take]; omega
 have h5 : (s.take j).length ≤ s.length := by rw [List.length_take]; omega
 unfold preL
 rw [List.length_append]
 omega
theorem outA_snoc (l : List (List Ent)) (p : List Ent) (x : Ent) : outA l (p ++ [x]) = stepA l (outA l p) x := by unfold outA; rw [List.foldl_append]; rfl
theorem idsA_snoc (l : List (List Ent)) (p : List Ent) (x : Ent) : idsA l (p ++ [x]) = stepB l (idsA l p) x := by unfold idsA; rw [List.foldl_append]; rfl
theorem ordS_next {g : Gr} {ids : List Int} {i : Nat} {x : Int} (h : ids[i]? = some x) : ordS g (ids.take (i + 1)) = insB (ltS g) (ordS g (ids.take i)) x := by
 unfold ordS
 rw [List.take_add_one, h, Option.toList_some, List.foldl_append]; rfl
theorem ordS_len (g : Gr) : ∀ ids : List Int, (ordS g ids).length = ids.length := fun ids => by
 have := (ordS_ok g ids [] List.Pairwise.nil).2.length_eq
 unfold ordS
 simpa using this
theorem ordS_mem (g : Gr) (ids : List Int) : ∀ x ∈ ordS g ids, x ∈ ids := fun x hx => by
 have := (ordS_ok g ids [] List.Pairwise.nil).2.mem_iff.1 hx
 simpa using this
section
variable {P : Program} [Is P]
theorem c_l06Resolve (g : Gr) (l : List (List Ent)) (h : GG g) (hs : ∀ s ∈ l, SG g s) (hn : l.length ≤ 60) : Con P 50 [.agg (encGr g), .sl 1 ((Gm.depthsE g.events).map encI), .sl 1 (l.map encSS)] (.sl 3 ((resI g (DD g) l).map encEnt)) := by
 have hl4 : ∀ s ∈ l, s.length ≤ 400 := fun s hm => by have := SG.len h (hs s hm); omega
 have h60 := h.n
 have hx := h.hx
 obtain ⟨dl, hdl⟩ : ∃ dl, dl = Gm.depthsE g.events := ⟨_, rfl⟩
 rw [← hdl]
 refine Con.ofS (n := 138) (rs := [.tmp 6]) (Is.fn Tryz.func50) rfl (Is.call Tryz.call50) Tryz.results50 Tryz.ntmps50 (by simp only [method_specs_simp]) ?_
 refine SW.seq (CW.sound ?_)
 simp only [method_specs_simp, seval, encGr]
 refine SW.seq (CW.sound ?_)
 simp only [method_specs_simp, seval, encGr]
 refine SW.seq (CW.sound ?_)
 simp only [method_specs_simp, seval, encGr]
 refine SW.freeze [1, 2] ?_
 simp only [mvcgen_simp, method_specs_simp, seval, encGr, convs_r8j, conv_junkj]
 refine SW.seq (CW.sound ?_)
 simp only [method_specs_simp, seval, encGr]
 refine SW.while (A := Nat) (fun i => ⟨pad 138 [.junk, .sl 1 (dl.map encI), .sl 1 (l.map encSS), .ptr 0 0, .junk, .junk, .nil, .sl 3 ((outA l (preL l i [] 0)).map encEnt), .sl 1 ((idsA l (preL l i [] 0)).map encI), .int .i64 i], [.box true (encGr g)], []⟩) (fun i => l.length - i) (fun i => i ≤ l.length) 0 [0] (Nat.zero_le _) ?_ ?_
 · have h0 : outA l (preL l 0 [] 0) = [] := rfl
   have h1 : idsA l (preL l 0 [] 0) = [] := rfl
   rw [h0, h1]
   simp only [mvcgen_simp, method_specs_simp, seval, encGr]
 · intro i hi
   have w1 : IntKind.i64.wrap ((i : Int) + 1) = ((i + 1 : Nat) : Int) := wadd1 i (by omega)
   refine CW.sound ?_
   simp only [method_specs_simp, seval, encGr]
   refine gB_split (fun h1 => ?_) (fun h1 => ?_)
   · simp only [decide_eq_true_eq, Int.ofNat_lt] at h1
     obtain ⟨s, hsi⟩ : ∃ s, l[i]? = some s := ⟨_, List.getElem?_eq_getElem h1⟩
     have hsm := List.mem_of_getElem? hsi
     have hsl := hl4 s hsm
     refine SW.while (A := Nat) (fun k => ⟨pad 138 [.junk, .sl 1 (dl.map encI), .sl 1 (l.map encSS), .ptr 0 0, .junk, .junk, .nil, .sl 3 ((outA l (preL l i s k)).map encEnt), .sl 1 ((idsA l (preL l i s k)).map encI), .int .i64 i, .int .i64 k], [.box true (encGr g)], []⟩) (fun k => s.length - k) (fun k => k ≤ s.length) 0 [0] (Nat.zero_le _) ?_ ?_
     · rw [preL_zero l i s]
       simp only [mvcgen_simp, method_specs_simp, seval, encGr]
     · intro k hk
       have hpl := preL_len hn hl4 i hsl k
       have hol := outA_len l (preL l i s k) []
       have hil := idsA_len l (preL l i s k) []
       rw [List.length_nil, Nat.zero_add] at hol hil
       have hol : (outA l (preL l i s k)).length ≤ 24400 := Nat.le_trans hol hpl
       have hil : (idsA l (preL l i s k)).length ≤ 24400 := Nat.le_trans hil hpl
       have w2 : IntKind.i64.wrap ((k : Int) + 1) = ((k + 1 : Nat) : Int) := wadd1 k (by omega)
       refine CW.sound ?_
       simp only [method_specs_simp, seval, encGr, hsi, encSS]
       refine ⟨by omega, by omega, ?_⟩
       refine gB_split (fun h2 => ?_) (fun h2 => ?_)
       · simp only [decide_eq_true_eq, Int.ofNat_lt] at h2
         obtain ⟨x, hxk⟩ : ∃ x, s[k]? = some x := ⟨_, List.getElem?_eq_getElem h2⟩
         have hstep := preL_step (l := l) (i := i) hxk
         have ho2 : outA l (preL l i s (k + 1)) = stepA l (outA l (preL l i s k)) x := by rw [hstep, outA_snoc]
         have hi2 : idsA l (preL l i s (k + 1)) = stepB l (idsA l (preL l i s k)) x := by rw [hstep, idsA_snoc]
         obtain ⟨o, ho⟩ : ∃ o, o = outA l (preL l i s k) := ⟨_, rfl⟩
         obtain ⟨ids, hids⟩ : ∃ ids, ids = idsA l (preL l i s k) := ⟨_, rfl⟩
         rw [← ho] at hol ho2 ⊢
         rw [← hids] at hil hi2 ⊢
         simp only [method_specs_simp, seval, encGr, hxk, encEnt, hsi, encSS]
         refine ⟨by omega, by omega, by omega, by omega, ?_⟩
         refine clY.con (c_l06Alike l x hn hl4) (by simp only [method_specs_simp, encEnt]) ?_
         cases ha : alkS l x with
         | true =>
           have e1 : stepA l o x = putR o x := by unfold stepA; rw [ha]; rfl
           have e2 : stepB l ids x = ids := by unfold stepB; rw [ha]; rfl
           rw [e1] at ho2
           rw [e2] at hi2
           simp only [method_specs_simp, seval, encGr, hxk, encEnt, hsi, encSS]
           refine ⟨by omega, by omega, by omega, by omega, ?_⟩
           refine clY.con (c117 o x (by omega)) (by simp only [method_specs_simp, encEnt]) ?_
           simp only [method_specs_simp, seval, encGr]
           refine Again.mk (k + 1) [0] h2 (Nat.sub_lt_sub_left h2 (Nat.lt_succ_self _)) ?_
           rw [ho2, hi2]
           simp only [mvcgen_simp, method_specs_simp, seval, encGr, w2, putR]
         | false =>
           have e1 : stepA l o x = o := by unfold stepA; rw [ha]; rfl
           have e2 : stepB l ids x = setI ids x.id := by unfold stepB; rw [ha]; rfl
           rw [e1] at ho2
           rw [e2] at hi2
           simp only [method_specs_simp, seval, encGr, hxk, encEnt, hsi, encSS]
           refine ⟨by omega, by omega, by omega, by omega, ?_⟩
           refine clY.con (c_l03Set ids x.id (by omega)) (by simp only [method_specs_simp, encGr]) ?_
           simp only [method_specs_simp, seval, encGr]
           refine Again.mk (k + 1) [0] h2 (Nat.sub_lt_sub_left h2 (Nat.lt_succ_self _)) ?_
           rw [ho2, hi2]
           simp only [mvcgen_simp, method_specs_simp, seval, encGr, w2]
       · have hk2 : k = s.length := by simp only [decide_eq_false_iff_not, Bool.not_true, Int.ofNat_lt] at h2; omega
         refine Again.mk (i + 1) [0] h1 (Nat.sub_lt_sub_left h1 (Nat.lt_succ_self _)) ?_
         rw [hk2, ← preL_next hsi]
         simp only [mvcgen_simp, method_specs_simp, seval, encGr, w1]
   · have hi2 : i = l.length := by simp only [decide_eq_false_iff_not, Bool.not_true, Int.ofNat_lt] at h1; omega
     rw [hi2, preL_all]
     have hcom := outA_com h hs
     have hall := ordS_has h hs
     have hidl : (idsA l l.flatten).length ≤ 24400 := by
       have a1 := idsA_len l l.flatten []
       have a2 := preL_len hn hl4 l.length (s := []) (Nat.zero_le _) 0
       rw [preL_all] at a2
       rw [List.length_nil, Nat.zero_add] at a1
       exact Nat.le_trans a1 a2
     have hres : resI g (DD g) l = ((ordS g (idsA l l.flatten)).map (evOf g)).foldl (stepR g) (outA l l.flatten) := by
       rw [ordS_ev h hs (SL.of h hn hs), outA_com h hs]; rfl
     have hsc : SG g (outA l l.flatten) := by
       rw [outA_com h hs]
       cases l with
       | nil => exact SG.nil g
       | cons s l =>
         have h1 := hs s List.mem_cons_self
         exact ⟨h1.srt.sublist List.filter_sublist, fun x hx => h1.has x (List.mem_filter.1 hx).1⟩
     rw [hres]
     obtain ⟨ids, hids⟩ : ∃ ids, ids = idsA l l.flatten := ⟨_, rfl⟩
     obtain ⟨o, ho⟩ : ∃ o, o = outA l l.flatten := ⟨_, rfl⟩
     rw [← hids] at hall hidl ⊢
     rw [← ho] at hsc ⊢
     refine SW.seq (CW.sound ?_)
     simp only [method_specs_simp, seval, encGr]
     refine SW.freeze [1] ?_
     simp only [mvcgen_simp, method_specs_simp, seval, encGr, convs_r8j, conv_junkj]
     refine SW.seq (CW.sound ?_)
     simp only [method_specs_simp, seval, encGr]
     refine SW.while (A := Nat) (fun i => ⟨pad 138 [.junk, .sl 1 (dl.map encI), .junk, .ptr 0 0, .junk, .junk, .nil, .sl 3 (o.map encEnt), .sl 1 (ids.map encI), .junk, .junk, .sl 1 ((ordS g (ids.take i)).map encI), .int .i64 i], [.box true (encGr g)], []⟩) (fun i => ids.length - i) (fun i => i ≤ ids.length) 0 [0] (Nat.zero_le _) ?_ ?_
     · have h0 : ordS g (ids.take 0) = [] := rfl
       rw [h0]
       simp only [mvcgen_simp, method_specs_simp, seval, encGr]
     · intro i hi
       have w1 : IntKind.i64.wrap ((i : Int) + 1) = ((i + 1 : Nat) : Int) := wadd1 i (by omega)
       have hol : (ordS g (ids.take i)).length = i := by rw [ordS_len, List.length_take]; omega
       refine SW.seq (CW.sound ?_)
       simp only [method_specs_simp, seval, encGr, hol]
       refine gB_split (fun h1 => ?_) (fun h1 => ?_)
       · simp only [decide_eq_true_eq, Int.ofNat_lt] at h1
         obtain ⟨x, hxi⟩ : ∃ x, ids[i]? = some x := ⟨_, List.getElem?_eq_getElem h1⟩
         have hox := hall x (List.mem_of_getElem? hxi)
         have hnx := ordS_next (g := g) hxi
         have hom : ∀ y ∈ ordS g (ids.take i), Gm.hasId g.events y = true := fun y hy => hall y (List.mem_of_mem_take (ordS_mem g _ y hy))
         obtain ⟨r, hr⟩ : ∃ r, r = ordS g (ids.take i) := ⟨_, rfl⟩
         rw [← hr] at hol hnx hom ⊢
         refine SW.seq (SW.block ?_)
         refine SW.seq (CW.sound ?_)
         simp only [method_specs_simp, seval, encGr, hol]
         refine SW.seq (CW.sound ?_)
         simp only [method_specs_simp, seval, encGr, hol]
         refine SW.while (A := Nat) (fun k => ⟨pad 138 [.junk, .sl 1 (dl.map encI), .junk, .ptr 0 0, .junk, .junk, .nil, .sl 3 (o.map encEnt), .sl 1 (ids.map encI), .junk, .junk, .sl 1 (r.map encI), .int .i64 i, .int .i64 k], [.box true (encGr g)], []⟩) (fun k => k) (fun k => k ≤ i ∧ posB (ltS g) r x r.length = posB (ltS g) r x k) i [0] ⟨Nat.le_refl _, by rw [hol]⟩ ?_ ?_
         · simp only [mvcgen_simp, method_specs_simp, seval, encGr, hol]
         · rintro k ⟨hk, hp⟩
           refine CW.sound ?_
           simp only [method_specs_simp, seval, encGr, hol]
           rcases Nat.eq_zero_or_pos k with rfl | hpos
           · rw [show posB (ltS g) r x 0 = 0 from rfl] at hp
             simp only [method_specs_simp, seval, encGr, hxi, encI]
             refine ⟨by kernel_rfl, ?_⟩
             have hall2 : [V.int .i64 x] :: r.map encI = (insB (ltS g) r x).map encI := by unfold insB; rw [hp, List.take_zero, List.drop_zero, List.nil_append, List.map_cons]; rfl
             have hins : (insB (ltS g) r x).length = i + 1 := by rw [insB_len]; omega
             refine CW.sound ?_
             simp only [method_specs_simp, seval, encGr, hxi, encI]
             refine ⟨by omega, by omega, by omega, by omega, by omega, by omega, by omega, ?_⟩
             rw [hall2]
             refine SW.freeze [5] ?_
             simp only [mvcgen_simp, method_specs_simp, seval, encGr, convs_r8j, conv_junkj]
             refine CW.sound ?_
             simp only [method_specs_simp, seval, encGr]
             refine Again.mk (i + 1) [0] h1 (Nat.sub_lt_sub_left h1 (Nat.lt_succ_self _)) ?_
             have e1 : List.take (1 + r.length) ((insB (ltS g) r x).map encI) = (insB (ltS g) r x).map encI := List.take_of_length_le (by rw [List.length_map]; omega)
             rw [hnx]
             simp only [mvcgen_simp, method_specs_simp, seval, encGr, w1, e1]
           · obtain ⟨j, hj⟩ : ∃ j, j = k - 1 := ⟨_, rfl⟩
             obtain ⟨y, hy⟩ : ∃ y, r[j]? = some y := ⟨_, List.getElem?_eq_getElem (by omega)⟩
             have hoy := hom y (List.mem_of_getElem? hy)
             have hgd : r.getD j 0 = y := by rw [List.getD_eq_getElem?_getD, hy]; rfl
             have w2 : IntKind.i64.wrap ((k : Int) - 1) = (j : Int) := by rw [hj]; exact wsub1 k (by omega) hpos
             have g1 : decide ((k : Int) > 0) = true := by simp; omega
             have hps : posB (ltS g) r x k = if ltS g x y = true then posB (ltS g) r x j else k := by
               have e : k = j + 1 := by omega
               rw [e, posB, hgd]
             simp only [method_specs_simp, seval, encGr, g1, w2, hol, hxi, hy, encI]
             refine ⟨by kernel_rfl, by omega, by omega, by omega, by omega, ?_⟩
             have hless := c_l06Less (P := P) g h x y hox hoy
             rw [← hdl] at hless
             refine clY.con hless (by simp only [method_specs_simp, encGr]) ?_
             have hlt : decide (cmpD (DD g) (evOf g x) (evOf g y) < 0) = ltS g x y := rfl
             rw [hlt]
             cases hl : ltS g x y with
             | true =>
               rw [hl, if_pos rfl] at hps
               simp only [method_specs_simp, seval, encGr, w2]
               have hp2 : posB (ltS g) r x i = posB (ltS g) r x j := by rw [← hol]; exact hp.trans hps
               refine Again.mk j [0] ⟨by omega, hp2⟩ (by omega) ?_
               simp only [mvcgen_simp, method_specs_simp, seval, encGr]
             | false =>
               rw [hl, if_neg (by decide)] at hps
               rw [hps] at hp
               have hlt : (r.take k).length = k := by rw [List.length_take]; omega
               have hld : (r.drop k).length = i - k := by rw [List.length_drop]; omega
               have hall2 : (r.take k).map encI ++ [[V.int .i64 x]] ++ (r.drop k).map encI = (insB (ltS g) r x).map encI := by unfold insB; rw [hp, List.map_append, List.map_cons, List.append_assoc]; rfl
               have hins : (insB (ltS g) r x).length = i + 1 := by rw [insB_len]; omega
               simp only [method_specs_simp, seval, encGr]
               refine CW.sound ?_
               simp only [method_specs_simp, seval, encGr, ← List.map_take, ← List.map_drop, List.take_length, hxi, encI, hlt, hld]
               refine ⟨by omega, by omega, by omega, by omega, by omega, by omega, by omega, by omega, by omega, by omega, by omega, by omega, by omega, ?_⟩
               rw [hall2]
               refine SW.freeze [5] ?_
               simp only [mvcgen_simp, method_specs_simp, seval, encGr, convs_r8j, conv_junkj]
               refine CW.sound ?_
               simp only [method_specs_simp, seval, encGr]
               refine Again.mk (i + 1) [0] h1 (Nat.sub_lt_sub_left h1 (Nat.lt_succ_self _)) ?_
               have e1 : List.take (k + 1 + (i - k)) ((insB (ltS g) r x).map encI) = (insB (ltS g) r x).map encI := List.take_of_length_le (by rw [List.length_map]; omega)
               rw [hnx]
               simp only [mvcgen_simp, method_specs_simp, seval, encGr, w1, e1]
       · have hi3 : i = ids.length := by simp only [decide_eq_false_iff_not, Bool.not_true, Int.ofNat_lt] at h1; omega
         rw [hi3, List.take_of_length_le (Nat.le_refl _)]
         have hom : ∀ y ∈ ordS g ids, Gm.hasId g.events y = true := fun y hy => hall y (ordS_mem g _ y hy)
         have hol : (ordS g ids).length = ids.length := ordS_len g ids
         obtain ⟨r, hr⟩ : ∃ r, r = ordS g ids := ⟨_, rfl⟩
         rw [← hr] at hol hom ⊢
         refine SW.seq (CW.sound ?_)
         simp only [method_specs_simp, seval, encGr]
         refine SW.while (A := Nat) (fun j => ⟨pad 138 [.junk, .junk, .junk, .ptr 0 0, .junk, .junk, .nil, .sl 3 ((((r.take j).map (evOf g)).foldl (stepR g) o).map encEnt), .junk, .junk, .junk, .sl 1 (r.map encI), .junk, .junk, .junk, .int .i64 j], [.box true (encGr g)], []⟩) (fun j => r.length - j) (fun j => j ≤ r.length) 0 [0] (Nat.zero_le _) ?_ ?_
         · simp only [mvcgen_simp, method_specs_simp, seval, encGr, List.take_zero, List.map_nil, List.foldl_nil]
         · intro j hj
           have w3 : IntKind.i64.wrap ((j : Int) + 1) = ((j + 1 : Nat) : Int) := wadd1 j (by omega)
           have hsg : SG g (((r.take j).map (evOf g)).foldl (stepR g) o) := foldR_SG h _ (fun e he => by
             obtain ⟨z, hz, rfl⟩ := List.mem_map.1 he
             obtain ⟨e, h1, h2, _⟩ := evOf_at (hom z (List.mem_of_mem_take hz))
             rw [h2]; exact List.mem_of_getElem? h1) hsc
           refine CW.sound ?_
           simp only [method_specs_simp, seval, encGr]
           refine gB_split (fun h2 => ?_) (fun h2 => ?_)
           · simp only [decide_eq_true_eq, Int.ofNat_lt] at h2
             obtain ⟨x, hxj⟩ : ∃ x, r[j]? = some x := ⟨_, List.getElem?_eq_getElem h2⟩
             have hox := hom x (List.mem_of_getElem? hxj)
             obtain ⟨e, he1, he2, he3⟩ := evOf_at hox
             have hem := List.mem_of_getElem? he1
             have hel := Gm.fid_lt hox
             have hai : atI g.events x = ((Gm.fidE g.events x : Nat) : Int) := atI_yes hox
             obtain ⟨f, hf⟩ : ∃ f, f = Gm.fidE g.events x := ⟨_, rfl⟩
             rw [← hf] at he1 hel hai
             have hnx : ((r.take (j + 1)).map (evOf g)).foldl (stepR g) o = stepR g (((r.take j).map (evOf g)).foldl (stepR g) o) e := by
               rw [List.take_add_one, hxj, Option.toList_some, List.map_append, List.foldl_append, List.map_singleton, he2]; rfl
             obtain ⟨u, hu⟩ : ∃ u, u = ((r.take j).map (evOf g)).foldl (stepR g) o := ⟨_, rfl⟩
             rw [← hu] at hsg hnx ⊢
             have hul := SG.len h hsg
             simp only [method_specs_simp, seval, encGr, encEv, hxj, encI]
             refine ⟨by kernel_rfl, by omega, by omega, ?_⟩
             refine clY.con (c_l03At g.events x (by omega)) (by simp only [method_specs_simp, encGr, encEv]) ?_
             simp only [method_specs_simp, seval, encGr, encEv, hai]
             simp only [method_specs_simp, seval, encGr, encEv, he1]
             refine ⟨by omega, by omega, ?_⟩
             refine clY.con (c_l05Allowed g u e (SG.LS h hsg)) (by simp only [method_specs_simp, encGr, encEv]) ?_
             cases hal : (allowedE g u e == 0) with
             | true =>
               have hst : stepR g u e = putR u (entE e) := by
                 have hid := h.ids e hem
                 unfold stepR
                 rw [hal, if_pos rfl, putR_I hsg.srt (by show e.id ≠ 0; omega)]
               rw [hst] at hnx
               simp only [method_specs_simp, seval, encGr, encEv, hal]
               refine clY.con (c117 u (entE e) (by omega)) (by simp only [method_specs_simp, encEnt, entE]) ?_
               simp only [method_specs_simp, seval, encGr, encEv]
               refine Again.mk (j + 1) [0] h2 (Nat.sub_lt_sub_left h2 (Nat.lt_succ_self _)) ?_
               rw [hnx]
               simp only [mvcgen_simp, method_specs_simp, seval, encGr, encEv, w3, putR]
             | false =>
               have hst : stepR g u e = u := by unfold stepR; rw [hal]; rfl
               rw [hst] at hnx
               simp only [method_specs_simp, seval, encGr, encEv, hal]
               refine Again.mk (j + 1) [0] h2 (Nat.sub_lt_sub_left h2 (Nat.lt_succ_self _)) ?_
               rw [hnx]
               simp only [mvcgen_simp, method_specs_simp, seval, encGr, encEv, w3]
           · have hj2 : j = r.length := by simp only [decide_eq_false_iff_not, Bool.not_true, Int.ofNat_lt] at h2; omega
             rw [hj2, List.take_of_length_le (Nat.le_refl _)]
             refine CW.sound ?_
             simp only [method_specs_simp, seval, encGr, encEv]
end
end Go.Proofs.YtdldgbkdcpdbeaaGreat
end

section
namespace Go.Proofs.YtdldgbkdcpdbeaaGreat
open Go.Pm
open Go.Gm (Ev Gr)
set_option maxHeartbeats 2000000
def hsG (g : Gr) : Hs := hsN g (DD g) (evsO g)
def oB (g : Gr) (A : List (Int × Option (List Ent))) : List (List V) := g.events.map fun e => [fS (lookD A e.id none)]
def oR (g : Gr) (R : List (Int × Int)) : List (List V) := g.events.map fun e => [V.int .i64 (lookD R e.id 0)]
theorem oB_get {g : Gr} (A : List (Int × Option (List Ent))) {k : Nat} {e : Ev} (he : g.events[k]? = some e) : (oB g A)[k]? = some [fS (lookD A e.id none)] := by unfold oB; rw [List.getElem?_map, he]; rfl
def kS (g : Gr) (x : Hs) : V := .fptr [.sl 1 ((Gm.depthsE g.events).map encI), .sl 1 (oB g x.B), .sl 1 (oB g x.A), .sl 1 (oR g x.R)] 0
def kL (g : Gr) : V := .fptr [.sl 1 ((Gm.depthsE g.events).map encI), .ar 1 0 g.events.length, .ar 2 0 g.events.length, .ar 3 0 g.events.length] 0
def kM (g : Gr) (x : Hs) : List Ob := [.box true (encGr g), .arr true 1 (oB g x.B), .arr true 1 (oB g x.A), .arr true 1 (oR g x.R)]
section
variable {P : Program} [Is P]
end
end Go.Proofs.YtdldgbkdcpdbeaaGreat
end

section
namespace Go.Proofs.YtdldgbkdcpdbeaaGreat
open Go.Pm
open Go.Gm (Ev Gr)
set_option maxHeartbeats 1000000
def thereG (g : Gr) (id : Int) : Bool := Gm.grRight g && Gm.hasId g.events id
def refG (g : Gr) (id : Int) : Int := if thereG g id then lookD (hsG g).R id 0 else -1
section
variable {P : Program} [Is P]
end
end Go.Proofs.YtdldgbkdcpdbeaaGreat
end

section
namespace Go.Proofs.YtdldgbkdcpdbeaaGreat
open Go.Pm
open Go.Gm (Ev Gr)
set_option maxHeartbeats 4000000
def aheadG (g : Gr) (id : Int) : List Ent := (lookD (hsG g).B id none).getD []
def behindG (g : Gr) (id : Int) : List Ent := (lookD (hsG g).A id none).getD []
section
variable {P : Program} [Is P]
theorem c_eqNilE : Con P 16 [.nil, .sl 3 (([] : List Ent).map encEnt)] (.bool true) := by
 have h := c57 (P := P) [] [] (by decide)
 rw [eqEntS_same] at h
 exact h.weak (VLes.cons (VLe.nil 3) (VLes.same VLes.nil))
theorem c_heldNilE (k : Int) (h0 : 0 ≤ k) (h1 : k < 2 ^ 40) : Con P 19 [.nil, .int .i64 k] (.int .i64 k) := by
 have h := c121 (P := P) k 0 h0 (by omega) (by decide)
 rw [show k + 3 * ((0 : Nat) : Int) = k by omega] at h
 exact h.weak (VLes.cons (VLe.nil 3) (VLes.same VLes.nil))
end
end Go.Proofs.YtdldgbkdcpdbeaaGreat
end

section
namespace Go.Proofs.YtdldgbkdcpdbeaaGreat
open Go.Pm
set_option maxHeartbeats 2000000
def keptI (p : Int → Bool) (xs : List Int) : List Int := xs.filter fun x => !p x
section
variable {P : Program} [Is P]
end
end Go.Proofs.YtdldgbkdcpdbeaaGreat
end

section
namespace Go.Proofs.YtdldgbkdcpdbeaaGreat
open Go.Pm
open Go.Gm (Ev Gr)
set_option maxHeartbeats 2000000
def okE (x : Hs) (e : Ev) : Bool := lookD x.R e.id 0 == 0
def accI (g : Gr) (x : Hs) : List Int := (g.events.filter (okE x)).map (·.id)
def hitI (g : Gr) (id i : Int) : Bool := (evOf g id).prev.contains i
def endsI (g : Gr) (ids l : List Int) : List Int := ids.foldl (fun o id => keptI (hitI g id) o) l
section
variable {P : Program} [Is P]
def endsP (g : Gr) (ids : List Int) (j : Nat) : List Int := endsI g (ids.take j) ids ++ List.replicate (ids.length - (endsI g (ids.take j) ids).length) 0
def endsG (g : Gr) (x : Hs) : List Int := endsI g (accI g x) (accI g x)
end
end Go.Proofs.YtdldgbkdcpdbeaaGreat
end

section
namespace Go.Proofs.YtdldgbkdcpdbeaaGreat
open Go.Pm
open Go.Gm (Ev Gr)
set_option maxHeartbeats 4000000
def takL (g : Gr) (x : Hs) : List Bool := g.events.map (okE x)
def tkP (g : Gr) (x : Hs) (i : Nat) : List Bool := (takL g x).take i ++ List.replicate (g.events.length - i) false
def endB (g : Gr) (x : Hs) (e : Ev) : Bool := okE x e && g.events.all fun e' => !(okE x e' && e'.prev.contains e.id)
def endsR (g : Gr) (x : Hs) (i : Nat) : List Int := ((g.events.take i).filter (endB g x)).map (·.id)
def endK (g : Gr) (x : Hs) (e : Ev) (k : Nat) : Bool := okE x e && (g.events.take k).all fun e' => !(okE x e' && e'.prev.contains e.id)
def endJ (g : Gr) (x : Hs) (e : Ev) (k : Nat) (l : List Int) (j : Nat) : Bool := endK g x e k && (l.take j).all fun p => p != e.id
section
variable {P : Program} [Is P]
end
end Go.Proofs.YtdldgbkdcpdbeaaGreat
end

section
namespace Go.Proofs.YtdldgbkdcpdbeaaGreat
open Go.Pm
theorem RR.pre {c : Cx} {k b : Nat} : ∀ {xs ys : List (List V)} {o : Nat}, RR c k b o (xs ++ ys) → RR c k b o xs
 | [], _, _, _ => trivial
 | _ :: _, _, _, ⟨h1, h2, h3⟩ => ⟨h1, h2, RR.pre h3⟩
end Go.Proofs.YtdldgbkdcpdbeaaGreat
end

section
namespace Go.Proofs.YtdldgbkdcpdbeaaGreat
open Go.Pm
open Go.Gm (Ev Gr)
set_option maxHeartbeats 4000000
theorem hF_le (g : Gr) (x : Hs) : VLe (hF g x) (hV g x) := VLe.fptr (.cons (VLe.refl _) (.cons (VLe.refl _) (.cons (VLe.refl _) (.cons (VLe.refl _) (.cons (VLe.junk _) (.cons (VLe.junk _) (.cons (VLe.junk _) .nil)))))))
def curG (g : Gr) : List Ent := resI g (DD g) (stsA (hsG g).A (endsG g (hsG g)))
section
variable {P : Program} [Is P]
end
end Go.Proofs.YtdldgbkdcpdbeaaGreat
end

section
namespace Go.Proofs.YtdldgbkdcpdbeaaGreat
open Go.Pm
set_option maxHeartbeats 4000000
def rowX (q : Nat) (s : List Ent) : List V := [.ar q 0 s.length]
def rowsX : Nat → List (List Ent) → List (List V)
 | _, [] => []
 | q, s :: l => rowX q s :: rowsX (q + 1) l
def obS3 (s : List Ent) : Ob := .arr true 3 (s.map encEnt)
def obX (b : Nat) (l : List (List Ent)) : List Ob := .arr true 1 (rowsX (b + 1) l) :: l.map obS3
theorem rowsX_len : ∀ (q : Nat) (l : List (List Ent)), (rowsX q l).length = l.length
 | _, [] => rfl
 | q, s :: l => by simp [rowsX, rowsX_len (q + 1) l]
theorem rowsX_app : ∀ (q : Nat) (l l' : List (List Ent)), rowsX q (l ++ l') = rowsX q l ++ rowsX (q + l.length) l'
 | _, [], l' => rfl
 | q, s :: l, l' => by
   simp only [List.cons_append, rowsX, rowsX_app (q + 1) l l', List.length_cons]
   rw [show q + 1 + l.length = q + (l.length + 1) by omega]
theorem rowsX_get : ∀ (q : Nat) (l : List (List Ent)) (i : Nat), (rowsX q l)[i]? = (l[i]?).map (rowX (q + i))
 | _, [], i => by simp [rowsX]
 | q, s :: l, 0 => by simp [rowsX]
 | q, s :: l, i + 1 => by
   simp only [rowsX, List.getElem?_cons_succ, rowsX_get (q + 1) l i]
   rw [show q + 1 + i = q + (i + 1) by omega]
theorem rowsX_ren (b : Nat) : ∀ (q : Nat) (l : List (List Ent)), renss (b + ·) (rowsX q l) = rowsX (b + q) l
 | _, [] => rfl
 | q, s :: l => by
   simp only [rowsX, renss, rowsX_ren b (q + 1) l]
   rfl
theorem obS3_ren (ρ : Nat → Nat) (s : List Ent) : (obS3 s).ren ρ = obS3 s := by
 unfold obS3
 simp only [Ob.ren, encEnt_rens]
theorem obX_ren (b : Nat) (l : List (List Ent)) : (obX 0 l).map (Ob.ren (b + ·)) = obX b l := by
 unfold obX
 simp only [List.map_cons, Ob.ren, rowsX_ren, List.map_map, Nat.zero_add]
 congr 1
 exact List.map_congr_left fun s _ => obS3_ren _ s
theorem obX_len (b : Nat) (l : List (List Ent)) : (obX b l).length = l.length + 1 := by simp [obX]
theorem obS3_refs (ok : Nat → Prop) (s : List Ent) : (obS3 s).refs ok := of_eq_true (encEnt_refs ok s)
theorem rowsX_refs {ok : Nat → Prop} : ∀ (q : Nat) (l : List (List Ent)), (∀ i, q ≤ i → i < q + l.length → ok i) → Refss ok (rowsX q l)
 | _, [], _ => trivial
 | q, s :: l, h => ⟨⟨h q (Nat.le_refl _) (by simp), trivial⟩, rowsX_refs (q + 1) l fun i h1 h2 => h i (by omega) (by simp only [List.length_cons]; omega)⟩
theorem obX_refs {n : Nat} (l : List (List Ent)) (h : l.length < n) : ∀ ob ∈ obX 0 l, ob.refs (· < n) := fun ob ho => by
 rcases List.mem_cons.1 ho with rfl | ho
 · exact rowsX_refs 1 l fun i h1 h2 => by omega
 · obtain ⟨s, _, rfl⟩ := List.mem_map.1 ho
   exact obS3_refs _ s
theorem obX_alive (l : List (List Ent)) : ∀ ob ∈ obX 0 l, ob.alive = true := fun ob ho => by
 rcases List.mem_cons.1 ho with rfl | ho
 · rfl
 · obtain ⟨s, _, rfl⟩ := List.mem_map.1 ho
   rfl
theorem obX_flat (b : Nat) (l : List (List Ent)) : ∀ ob ∈ obX b l, ob.flat := fun ob ho => by
 rcases List.mem_cons.1 ho with rfl | ho
 · refine ⟨rfl, ?_⟩
   have : ∀ q (l : List (List Ent)), Flatss (rowsX q l) := fun q l => by
     induction l generalizing q with
     | nil => trivial
     | cons s l ih => exact ⟨⟨trivial, trivial⟩, ih (q + 1)⟩
   exact this _ l
 · obtain ⟨s, _, rfl⟩ := List.mem_map.1 ho
   exact ⟨rfl, flat_ents _⟩
def LiesX (m : List Ob) (b : Nat) (l : List (List Ent)) : Prop := ∀ i ob, (obX b l)[i]? = some ob → m[b + i]? = some ob
theorem dcv_intn (n : Nat) (m : List Ob) (k : IntKind) (x : Int) : dcv n m (.int k x) = .int k x := by cases n <;> rfl
theorem dcv_ents (n : Nat) (m : List Ob) (s : List Ent) : (s.map encEnt).map (fun c => c.map (dcv n m)) = s.map encEnt := by
 rw [List.map_map]
 refine List.map_congr_left fun x _ => ?_
 show (encEnt x).map (dcv n m) = encEnt x
 simp only [encEnt, List.map_cons, List.map_nil, dcv_intn]
theorem dcv_rowX (n : Nat) {m : List Ob} {q : Nat} {s : List Ent} (h : m[q]? = some (obS3 s)) : (rowX q s).map (dcv (n + 1) m) = encSS s := by
 simp only [rowX, List.map_cons, List.map_nil, dcv, h, obS3, encSS, List.drop_zero]
 rw [List.take_of_length_le (by simp), dcv_ents]
theorem dcv_rowsX (n : Nat) {m : List Ob} : ∀ (l : List (List Ent)) (q : Nat), (∀ i s, l[i]? = some s → m[q + i]? = some (obS3 s)) → (rowsX q l).map (fun c => c.map (dcv (n + 1) m)) = l.map encSS
 | [], q, h => rfl
 | s :: l, q, h => by
   simp only [rowsX, List.map_cons]
   rw [dcv_rowX n (q := q) (h 0 s rfl), dcv_rowsX n l (q + 1) fun i x hi => by rw [Nat.add_assoc, Nat.add_comm 1 i]; exact h (i + 1) x hi]
theorem LiesX.dcv (n : Nat) {m : List Ob} {b : Nat} {l : List (List Ent)} (h : LiesX m b l) : Go.Pm.dcv (n + 2) m (.ar b 0 l.length) = .sl 1 (l.map encSS) := by
 have h0 := h 0 _ rfl
 rw [Nat.add_zero] at h0
 simp only [Go.Pm.dcv, h0, List.drop_zero]
 rw [List.take_of_length_le (by rw [rowsX_len]; exact Nat.le_refl _)]
 congr 1
 refine dcv_rowsX n l (b + 1) fun i e hi => ?_
 rw [Nat.add_assoc, Nat.add_comm 1 i]
 refine h (i + 1) _ ?_
 unfold obX
 rw [List.getElem?_cons_succ, List.getElem?_map, hi]; rfl
theorem dcv_ssn (n : Nat) (m : List Ob) (l : List (List Ent)) : Go.Pm.dcv n m (.sl 1 (l.map encSS)) = .sl 1 (l.map encSS) := by cases n <;> rfl
def rowsXL (xs : List (List Ent)) (k : Nat) : List (List V) := rowsX 1 (xs.take k) ++ List.replicate (xs.length - k) [V.nil]
theorem rowsXL_len {xs : List (List Ent)} {k : Nat} (hk : k ≤ xs.length) : (rowsXL xs k).length = xs.length := by
 simp [rowsXL, rowsX_len, Nat.min_eq_left hk]; omega
theorem rowsXL_zero (xs : List (List Ent)) : rowsXL xs 0 = List.replicate xs.length [V.nil] := by simp [rowsXL, rowsX]
theorem rowsXL_all (xs : List (List Ent)) : rowsXL xs xs.length = rowsX 1 xs := by simp [rowsXL]
theorem rowsXL_get {xs : List (List Ent)} {k : Nat} (hk : k < xs.length) : (rowsXL xs k).getD k [] = [V.nil] := by
 unfold rowsXL
 rw [List.getD_eq_getElem?_getD, List.getElem?_append_right (by simp [rowsX_len]; omega), rowsX_len, List.length_take, show k - min k xs.length = 0 by omega, show xs.length - k = (xs.length - (k + 1)) + 1 by omega, List.replicate_succ]
 rfl
theorem rowsXL_set {xs : List (List Ent)} {k : Nat} {x : List Ent} (hx : xs[k]? = some x) : (rowsXL xs k).set k (rowX (k + 1) x) = rowsXL xs (k + 1) := by
 have hk := (List.getElem?_eq_some_iff.1 hx).1
 unfold rowsXL
 rw [List.set_append_right _ _ (by simp [rowsX_len]; omega), rowsX_len, List.length_take, show k - min k xs.length = 0 by omega, show xs.length - k = (xs.length - (k + 1)) + 1 by omega, List.replicate_succ, List.set_cons_zero, List.take_add_one, hx, Option.toList_some, rowsX_app, List.length_take, Nat.min_eq_left (by omega), List.append_assoc]
 simp [rowsX, Nat.add_comm]
def SSOK (l : List (List Ent)) : Prop := l.length * 24 ≤ 2 ^ 47 ∧ ∀ s ∈ l, s.length * 24 ≤ 2 ^ 47
def wSS : List (List Ent) → Int
 | [] => 0
 | s :: l => s.length + wSS l
theorem wSS_nn : ∀ l : List (List Ent), 0 ≤ wSS l
 | [] => Int.le_refl _
 | s :: l => by have := wSS_nn l; unfold wSS; omega
theorem wSS_app : ∀ l l' : List (List Ent), wSS (l ++ l') = wSS l + wSS l'
 | [], l' => by simp [wSS]
 | s :: l, l' => by simp only [List.cons_append, wSS, wSS_app l l']; omega
def mSS : Int → List (List Ent) → List (List Ent)
 | _, [] => []
 | k, s :: l => mEnts k s.length :: mSS (k + 3 * s.length) l
theorem mSS_len : ∀ (k : Int) (l : List (List Ent)), (mSS k l).length = l.length
 | _, [] => rfl
 | k, s :: l => by simp [mSS, mSS_len _ l]
theorem mSS_get : ∀ (k : Int) (l : List (List Ent)) (i : Nat), (mSS k l)[i]? = (l[i]?).map fun s => mEnts (k + 3 * wSS (l.take i)) s.length
 | _, [], i => by simp [mSS]
 | k, s :: l, 0 => by simp [mSS, wSS]
 | k, s :: l, i + 1 => by
   simp only [mSS, List.getElem?_cons_succ, mSS_get _ l i, List.take_succ_cons, wSS]
   rw [show k + 3 * (s.length : Int) + 3 * wSS (l.take i) = k + 3 * ((s.length : Int) + wSS (l.take i)) by omega]
def mixS (k : Int) (l : List (List Ent)) (i : Nat) : List (List Ent) := (mSS k l).take i ++ l.drop i
theorem mixS_len {k : Int} {l : List (List Ent)} {i : Nat} : (mixS k l i).length = l.length := by
 unfold mixS
 simp [mSS_len]; omega
theorem mixS_zero (k : Int) (l : List (List Ent)) : mixS k l 0 = l := by simp [mixS]
theorem mixS_all (k : Int) (l : List (List Ent)) : mixS k l l.length = mSS k l := by
 unfold mixS
 rw [List.take_of_length_le (by rw [mSS_len]; omega), List.drop_eq_nil_of_le (Nat.le_refl _), List.append_nil]
theorem mixS_get {k : Int} {l : List (List Ent)} {i : Nat} {s : List Ent} (h : l[i]? = some s) : (mixS k l i)[i]? = some s := by
 have hi := (List.getElem?_eq_some_iff.1 h).1
 unfold mixS
 rw [List.getElem?_append_right (by simp; omega), List.length_take, mSS_len, List.getElem?_drop, show i + (i - min i l.length) = i by omega]
 exact h
theorem mixS_set {k : Int} {l : List (List Ent)} {i : Nat} {s : List Ent} (h : l[i]? = some s) : (mixS k l i).set i (mEnts (k + 3 * wSS (l.take i)) s.length) = mixS k l (i + 1) := by
 have hi := (List.getElem?_eq_some_iff.1 h).1
 have hm : (mSS k l)[i]? = some (mEnts (k + 3 * wSS (l.take i)) s.length) := by rw [mSS_get, h]; rfl
 unfold mixS
 rw [List.set_append_right _ _ (by simp; omega), List.length_take, mSS_len, show i - min i l.length = 0 by omega, drop_cons h, List.set_cons_zero, List.take_add_one, hm]
 simp
theorem rowsX_mix (q : Nat) : ∀ (l l' : List (List Ent)), l.length = l'.length → (∀ (i : Nat) (s s' : List Ent), l[i]? = some s → l'[i]? = some s' → s.length = s'.length) → rowsX q l = rowsX q l' := by
 intro l l' hl h
 apply List.ext_getElem?
 intro i
 rw [rowsX_get, rowsX_get]
 cases h1 : l[i]? with
 | none =>
   have : l'[i]? = none := by rw [List.getElem?_eq_none_iff] at h1 ⊢; omega
   rw [this]
 | some s =>
   obtain ⟨s', h2⟩ : ∃ s', l'[i]? = some s' := ⟨_, List.getElem?_eq_getElem (by have := (List.getElem?_eq_some_iff.1 h1).1; omega)⟩
   rw [h2]
   simp only [Option.map_some, rowX, h i s s' h1 h2]
section
variable {P : Program} [Is P]
theorem c_szEntrySS (l : List (List Ent)) (k : Int) (h0 : 0 ≤ k) (h1 : k < 2 ^ 50) (hx : SSOK l) : Con P 22 [.sl 1 (l.map encSS), .int .i64 k] (.int .i64 (if k - l.length - wSS l < 0 then -1 else k - l.length - wSS l)) := by
 have hx1 := hx.1
 have hnn := wSS_nn l
 refine Con.of (n := 27) (rs := [.tmp 4]) (Is.fn Tryz.func22) rfl (Is.call Tryz.call22) Tryz.results22 Tryz.ntmps22 trivial ?_
 simp only [method_specs_simp, seval, encSS]
 rw [wrap_id (by omega) (by omega)]
 refine gB_split (fun h => ?_) (fun h => ?_)
 · simp only [decide_eq_true_eq] at h
   rw [if_pos (by omega)]
 · simp only [decide_eq_false_iff_not, Bool.not_true] at h
   refine SW.while (A := Nat) (fun i => ⟨pad 27 [.sl 1 (l.map encSS), .int .i64 (k - l.length - wSS (l.take i)), .junk, .junk, .int .i64 0, .int .i64 i], [], []⟩) (fun i => l.length - i) (fun i => i ≤ l.length ∧ 0 ≤ k - l.length - wSS (l.take i)) 0 [] ⟨Nat.zero_le _, by simp only [List.take_zero, wSS]; omega⟩ ?_ ?_
   · simp only [mvcgen_simp, method_specs_simp, seval, encSS, List.take_zero, wSS]
     exact Int.sub_zero _
   · rintro i ⟨hi, hnn2⟩
     have w1 : IntKind.i64.wrap ((i : Int) + 1) = ((i + 1 : Nat) : Int) := wadd1 i (by omega)
     refine CW.sound ?_
     simp only [method_specs_simp, seval, encSS]
     refine gB_split (fun h1 => ?_) (fun h1 => ?_)
     · simp only [decide_eq_true_eq, Int.ofNat_lt] at h1
       obtain ⟨s, hs⟩ : ∃ s, l[i]? = some s := ⟨_, List.getElem?_eq_getElem h1⟩
       have hsl := hx.2 s (List.mem_of_getElem? hs)
       have hnx : wSS (l.take (i + 1)) = wSS (l.take i) + s.length := by rw [List.take_add_one, hs, Option.toList_some, wSS_app]; simp only [wSS]; omega
       have htot : wSS l = wSS (l.take (i + 1)) + wSS (l.drop (i + 1)) := by rw [← wSS_app, List.take_append_drop]
       have hd := wSS_nn (l.drop (i + 1))
       have ht := wSS_nn (l.take i)
       obtain ⟨z, hz⟩ : ∃ z, z = k - l.length - wSS (l.take i) := ⟨_, rfl⟩
       rw [← hz] at hnn2 ⊢
       simp only [method_specs_simp, seval, encSS, hs]
       refine ⟨by omega, by omega, ?_⟩
       refine clY.con (c51 s z (by omega)) (by simp only [method_specs_simp, encSS]) ?_
       simp only [method_specs_simp, seval, encSS]
       have wz : IntKind.i64.wrap (z - s.length) = z - s.length := wrap_id (by omega) (by omega)
       rw [wz]
       by_cases hneg : z - (s.length : Int) < 0
       · rw [if_pos hneg, if_pos (by omega)]
         simp only [method_specs_simp, seval, encSS]
       · rw [if_neg hneg]
         have hdn : decide (z - (s.length : Int) < 0) = false := decide_eq_false hneg
         simp only [method_specs_simp, seval, encSS, hdn]
         refine Again.mk (i + 1) [] ⟨h1, by omega⟩ (Nat.sub_lt_sub_left h1 (Nat.lt_succ_self _)) ?_
         rw [show k - (l.length : Int) - wSS (l.take (i + 1)) = z - s.length by omega]
         simp only [mvcgen_simp, method_specs_simp, seval, encSS, w1]
     · have hi2 : i = l.length := by simp only [decide_eq_false_iff_not, Bool.not_true, Int.ofNat_lt] at h1; omega
       rw [hi2, List.take_length] at hnn2 ⊢
       rw [if_neg (by omega)]
theorem n_toEntrySS (l : List (List Ent)) (hx : SSOK l) : LCon P 24 [.sl 1 (l.map encSS)] [] (.ar 0 0 l.length) (obX 0 l) := by
 have hx1 := hx.1
 refine LCon.ofJ (n := 23) (rs := [.tmp 2]) (Is.fn Tryz.func24) rfl (Is.call Tryz.call24) Tryz.results24 Tryz.ntmps24 ?_
 simp only [method_specs_simp, seval]
 refine ⟨by omega, by omega, by omega, ?_⟩
 refine SW.whileJ (A := Nat) (fun k => ⟨pad 23 [.sl 1 (l.map encSS), .junk, .nil, .ar 0 0 l.length, .int .i64 k], .arr true 1 (rowsXL l k) :: (l.take k).map obS3, []⟩) (fun k => l.length - k) (fun k => k ≤ l.length) 0 (Nat.zero_le _) ?_ ?_
 · rw [← rowsXL_zero]
   simp only [mvcgen_simp, method_specs_simp, seval]
 · intro k hk
   refine CW.sound ?_
   simp only [method_specs_simp, seval]
   refine gB_split (fun h => ?_) (fun h => ?_)
   · simp only [decide_eq_true_eq, Int.ofNat_lt] at h
     obtain ⟨s, hs⟩ : ∃ s, l[k]? = some s := ⟨_, List.getElem?_eq_getElem h⟩
     have hsl := hx.2 s (List.mem_of_getElem? hs)
     simp only [method_specs_simp, seval, hs, encSS]
     refine ⟨by omega, by omega, ?_⟩
     have hl : ((l.take k).map obS3).length = k := by simp; omega
     refine clY.new (n53 s hsl) (by simp only [method_specs_simp]) ?_
     simp only [method_specs_simp, seval, hl]
     have e1 : (rowsXL l k).set k (V.ar (k + 1) 0 s.length :: List.drop 1 ((rowsXL l k).getD k [])) = rowsXL l (k + 1) := by
       rw [rowsXL_get h]; exact rowsXL_set hs
     have hat : ((l.take k).map obS3 ++ [obS3 s])[k]? = some (obS3 s) := by rw [List.getElem?_append_right (by omega), hl, Nat.sub_self]; rfl
     refine ⟨by omega, by omega, ?_, by rw [rowsXL_len hk]; exact h, ?_, ?_⟩
     · show (arrAt ((l.take k).map obS3 ++ [obS3 s]) k).isSome = true
       unfold arrAt
       rw [hat]; rfl
     · show (match ((l.take k).map obS3 ++ [obS3 s])[k]? with
             | some (Ob.arr lv sz xs) => true
             | x => false) = true
       rw [hat]; rfl
     rw [wrap_id (by omega) (by omega)]
     refine AgainJ.mk (k + 1) h (Nat.sub_lt_sub_left h (Nat.lt_succ_self _)) ?_
     rw [e1, List.take_add_one, hs, Option.toList_some, List.map_append, List.map_cons, List.map_nil]
     simp only [mvcgen_simp, method_specs_simp, seval]
     try exact ⟨rfl, rfl⟩
     try rfl
   · simp only [decide_eq_false_iff_not, Bool.not_true, Int.ofNat_lt] at h
     have hi : k = l.length := by omega
     subst hi
     rw [rowsXL_all, List.take_of_length_le (Nat.le_refl _)]
     rfl
def fO (o : Option (List Ent)) : List V := [fS o]
theorem fO_refs (ok : Nat → Prop) (l : List (Option (List Ent))) : Refss ok (l.map fO) = True := eq_true (Refss_map fun o => ⟨fS_ref ok o, trivial⟩)
theorem fO_rens (ρ : Nat → Nat) (l : List (Option (List Ent))) : renss ρ (l.map fO) = l.map fO := renss_map fun o => ⟨fS_ref _ o, trivial⟩
def oL (l : List (List Ent)) (k : Nat) : List (Option (List Ent)) := (l.take k).map some ++ List.replicate (l.length - k) none
theorem c_toEntrySS (l : List (List Ent)) (hx : SSOK l) : Con P 24 [.sl 1 (l.map encSS)] (.sl 1 (l.map encSS)) := by
 have hx1 := hx.1
 refine Con.of (n := 23) (rs := [.tmp 2]) (Is.fn Tryz.func24) rfl (Is.call Tryz.call24) Tryz.results24 Tryz.ntmps24 (by simp only [method_specs_simp]) ?_
 simp only [method_specs_simp, seval, encSS]
 refine ⟨by omega, by omega, by omega, ?_⟩
 have h00 : List.replicate l.length [V.nil] = (oL l 0).map fO := by unfold oL; rw [List.take_zero, List.map_nil, List.nil_append, Nat.sub_zero, List.map_replicate]; rfl
 rw [h00]
 refine SW.while (A := Nat) (fun k => ⟨pad 23 [.sl 1 (l.map encSS), .junk, .nil, .ar 0 0 l.length, .int .i64 k], [.arr true 1 ((oL l k).map fO)], []⟩) (fun k => l.length - k) (fun k => k ≤ l.length) 0 [0] (Nat.zero_le _) ?_ ?_
 · simp only [mvcgen_simp, method_specs_simp, seval, encSS, fO_refs, fO_rens]
 · intro k hk
   have w1 : IntKind.i64.wrap ((k : Int) + 1) = ((k + 1 : Nat) : Int) := wadd1 k (by omega)
   have hml : ((l.take k).map (some : List Ent → Option (List Ent))).length = k := by rw [List.length_map, List.length_take]; omega
   have hlen : (oL l k).length = l.length := by unfold oL; rw [List.length_append, hml, List.length_replicate]; omega
   refine CW.sound ?_
   simp only [method_specs_simp, seval, encSS]
   refine gB_split (fun h => ?_) (fun h => ?_)
   · simp only [decide_eq_true_eq, Int.ofNat_lt] at h
     obtain ⟨s, hs⟩ : ∃ s, l[k]? = some s := ⟨_, List.getElem?_eq_getElem h⟩
     have hsl := hx.2 s (List.mem_of_getElem? hs)
     have hgd : ((oL l k).map fO).getD k [] = [V.nil] := by
       unfold oL
       rw [List.getD_eq_getElem?_getD, List.getElem?_map, List.getElem?_append_right (by omega), hml, Nat.sub_self, show l.length - k = (l.length - (k + 1)) + 1 by omega, List.replicate_succ]; rfl
     have hnx : ((oL l k).map fO).set k [V.sl 3 (s.map encEnt)] = (oL l (k + 1)).map fO := by
       have : (oL l k).set k (some s) = oL l (k + 1) := by
         unfold oL
         rw [List.set_append_right _ _ (by omega), hml, Nat.sub_self, show l.length - k = (l.length - (k + 1)) + 1 by omega, List.replicate_succ, List.set_cons_zero, List.take_add_one, hs, Option.toList_some, List.map_append, List.append_assoc]
         rfl
       rw [← this, List.map_set]; rfl
     simp only [method_specs_simp, seval, encSS, hs]
     refine ⟨by omega, by omega, ?_⟩
     refine clY.con (c53 s hsl) (by simp only [method_specs_simp, encSS]) ?_
     simp only [method_specs_simp, seval, encSS, hgd, List.drop_one, List.tail_cons]
     refine ⟨by omega, by omega, by omega, ?_⟩
     refine Again.mk (k + 1) [0] h (Nat.sub_lt_sub_left h (Nat.lt_succ_self _)) ?_
     simp only [mvcgen_simp, method_specs_simp, seval, encSS, w1, hnx, fO_refs, fO_rens]
   · have hi : k = l.length := by simp only [decide_eq_false_iff_not, Bool.not_true, Int.ofNat_lt] at h; omega
     have hAl : (oL l k).map fO = l.map encSS := by
       unfold oL
       rw [hi, List.take_length, Nat.sub_self, List.replicate_zero, List.append_nil, List.map_map]; rfl
     have htk : List.take l.length ((oL l k).map fO) = l.map encSS := by rw [hAl]; exact List.take_of_length_le (by rw [List.length_map]; exact Nat.le_refl _)
     simp only [method_specs_simp, seval, encSS, htk]
theorem c_eqEntrySS (l : List (List Ent)) (hx : SSOK l) : Con P 26 [.sl 1 (l.map encSS), .sl 1 (l.map encSS)] (.bool true) := by
 have hx1 := hx.1
 refine Con.of (n := 27) (rs := [.tmp 4]) (Is.fn Tryz.func26) rfl (Is.call Tryz.call26) Tryz.results26 Tryz.ntmps26 trivial ?_
 simp only [method_specs_simp, seval]
 simp only [method_specs_simp, seval, bne_self_eq_false]
 refine SW.while (A := Nat) (fun i => ⟨pad 27 [.sl 1 (l.map encSS), .sl 1 (l.map encSS), .junk, .junk, .bool false, .int .i64 i], [], []⟩) (fun i => l.length - i) (fun i => i ≤ l.length) 0 [] (Nat.zero_le _) ?_ ?_
 · simp only [mvcgen_simp, method_specs_simp, seval]
 · intro i hi
   have w1 : IntKind.i64.wrap ((i : Int) + 1) = ((i + 1 : Nat) : Int) := wadd1 i (by omega)
   refine CW.sound ?_
   simp only [method_specs_simp, seval]
   refine gB_split (fun h1 => ?_) (fun h1 => ?_)
   · simp only [decide_eq_true_eq, Int.ofNat_lt] at h1
     obtain ⟨s, hs⟩ : ∃ s, l[i]? = some s := ⟨_, List.getElem?_eq_getElem h1⟩
     have hsl := hx.2 s (List.mem_of_getElem? hs)
     simp only [method_specs_simp, seval, hs, encSS]
     refine ⟨by kernel_rfl, by omega, by omega, by omega, by omega, ?_⟩
     refine clY.con (c57 s s (by omega)) (by simp only [method_specs_simp]) ?_
     simp only [method_specs_simp, seval, eqEntS_same]
     refine Again.mk (i + 1) [] h1 (Nat.sub_lt_sub_left h1 (Nat.lt_succ_self _)) ?_
     simp only [mvcgen_simp, method_specs_simp, seval, w1]
   · trivial
theorem n_markEntrySS (l : List (List Ent)) (k : Int) (h0 : 0 ≤ k) (hx : SSOK l) (hw : k + 3 * wSS l < 2 ^ 50) : LCon P 27 [.ar 0 0 l.length, .int .i64 k] (obX 0 l) (.int .i64 (k + 3 * wSS l)) (obX 0 (mSS k l)) := by
 refine LCon.ofJ (n := 19) (rs := [.tmp 4]) (Is.fn Tryz.func27) rfl (Is.call Tryz.call27) Tryz.results27 Tryz.ntmps27 ?_
 simp only [method_specs_simp, seval]
 generalize hgg : plc 0 (obX 0 l) = gg
 have hx1 := hx.1
 have hmx0 : ∀ i, rowsX 1 (mixS k l i) = rowsX 1 l := fun i => rowsX_mix 1 _ _ mixS_len (fun j s s' h1 h2 => by
   unfold mixS at h1
   have hj := (List.getElem?_eq_some_iff.1 h2).1
   by_cases hji : j < i
   · rw [List.getElem?_append_left (by rw [List.length_take, mSS_len]; omega), List.getElem?_take_of_lt hji, mSS_get, h2] at h1
     injection h1 with h1
     rw [← h1, mEnts_length]
   · have : (mixS k l i)[j]? = some s := h1
     rw [List.getElem?_append_right (by rw [List.length_take, mSS_len]; omega), List.length_take, mSS_len, List.getElem?_drop, show i + (j - min i l.length) = j + (i - min i l.length) by omega] at h1
     by_cases hil : i ≤ l.length
     · rw [show j + (i - min i l.length) = j by omega, h2] at h1
       injection h1 with h1
       rw [h1]
     · omega)
 refine SW.whileJ (A := Nat) (fun i => ⟨pad 19 [.ar 0 0 l.length, .int .i64 (k + 3 * wSS (l.take i)), .junk, .junk, .junk, .int .i64 i], .arr true 1 (rowsX 1 l) :: (mixS k l i).map obS3, gg⟩) (fun i => l.length - i) (fun i => i ≤ l.length) 0 (Nat.zero_le _) ?_ ?_
 · simp only [mvcgen_simp, method_specs_simp, seval]
   exact ⟨by simp [wSS], by rw [mixS_zero]; rfl⟩
 · intro i hi
   have hrl : (rowsX 1 l).length = l.length := rowsX_len 1 l
   refine CW.sound ?_
   simp only [method_specs_simp, seval, hrl]
   refine gB_split (fun h => ?_) (fun h => ?_)
   · simp only [decide_eq_true_eq, Int.ofNat_lt] at h
     obtain ⟨s, hs⟩ : ∃ s, l[i]? = some s := ⟨_, List.getElem?_eq_getElem h⟩
     have hsl := hx.2 s (List.mem_of_getElem? hs)
     have hmx := mixS_get (k := k) hs
     have eg : (rowsX 1 l)[i]? = some (rowX (1 + i) s) := by rw [rowsX_get, hs]; rfl
     obtain ⟨z, hz⟩ : ∃ z, z = k + 3 * wSS (l.take i) := ⟨_, rfl⟩
     have hq := wSS_app (l.take i) (l.drop i)
     rw [List.take_append_drop, drop_cons hs, wSS] at hq
     have a1 := wSS_nn (l.take i)
     have a2 := wSS_nn (l.drop (i + 1))
     have w9 : IntKind.i64.wrap ((i : Int) + 1) = ((i + 1 : Nat) : Int) := wadd1 i (by omega)
     rw [← hz]
     simp only [method_specs_simp, seval, eg, rowX]
     refine ⟨by omega, by omega, ?_⟩
     have hob : ∀ o : Ob, (o :: (mixS k l i).map obS3)[1 + i]? = some (obS3 s) := fun o => by
       rw [Nat.add_comm, List.getElem?_cons_succ, List.getElem?_map, hmx]; rfl
     refine clY.at1 (n58 s z (by omega) (by omega) (by omega)) (hob _) (pure_ents _ _) (pure_ents _ _) trivial ⟨trivial, trivial⟩ (by simp only [convs, conv]) ?_
     have hst : ∀ o : Ob, (o :: (mixS k l i).map obS3).set (1 + i) (.arr true 3 ((mEnts z s.length).map encEnt)) = o :: (mixS k l (i + 1)).map obS3 := fun o => by
       rw [Nat.add_comm, List.set_cons_succ, ← mixS_set hs, ← hz, List.map_set]; rfl
     rw [hst]
     have w8 : z + 3 * (s.length : Int) = k + 3 * wSS (l.take (i + 1)) := by
       rw [List.take_add_one, hs, Option.toList_some, wSS_app]; simp only [wSS]; omega
     rw [w8]
     simp only [method_specs_simp, seval, w9]
     refine AgainJ.mk (i + 1) h (Nat.sub_lt_sub_left h (Nat.lt_succ_self _)) ?_
     simp only [mvcgen_simp, method_specs_simp, seval]
   · have hi2 : i = l.length := by simp only [decide_eq_false_iff_not, Bool.not_true, Int.ofNat_lt] at h; omega
     subst hi2
     have hm := hmx0 l.length
     rw [mixS_all] at hm
     rw [List.take_of_length_le (Nat.le_refl _), mixS_all]
     exact ⟨rfl, by rw [← hm]; rfl⟩
end
end Go.Proofs.YtdldgbkdcpdbeaaGreat
end

section
namespace Go.Proofs.YtdldgbkdcpdbeaaGreat
open Go.Pm
open Go.Gm (Ev Gr)
set_option maxHeartbeats 4000000
def okRes (g : Gr) (l : List (List Ent)) : Bool := decide (l.length ≤ 60) && (Gm.grRight g && l.all (stateE g))
theorem stateE_SG {g : Gr} {s : List Ent} (h : stateE g s = true) : SG g s := by
 refine ⟨(stateE_ss h).1, ?_⟩
 unfold stateE at h
 rw [Bool.and_eq_true, List.all_eq_true] at h
 exact h.2
section
variable {P : Program} [Is P]
theorem c_Resolve1 (g : Gr) (s : List Ent) (h : GG g) (hs : s.length < 2 ^ 62) : Con P 54 [.sl 3 (s.map encEnt), .fptr (encGr g) 0] (.bool (!stateE g s)) := by
 refine Con.of (n := 8) (rs := [.tmp 3]) (Is.fn Tryz.func54) rfl (Is.call Tryz.call54) Tryz.results54 Tryz.ntmps54 trivial ?_
 simp only [method_specs_simp, seval, encGr]
 refine clY.con (c_isStateOf g s h.hx h.srt hs) (by simp only [method_specs_simp, encGr]) ?_
 simp only [method_specs_simp, seval, encGr]
theorem n_Resolve (g : Gr) (l : List (List Ent)) (hg : GrOK g) (hx : SSOK l) (ho : okRes g l = true) : LCon P 25 [.agg (encGr g), .sl 1 (l.map encSS)] [] (.ar 0 0 (resI g (DD g) l).length) [.arr true 3 ((resI g (DD g) l).map encEnt)] := by
 have ho2 := ho
 unfold okRes at ho2
 simp only [Bool.and_eq_true, decide_eq_true_eq, List.all_eq_true] at ho2
 obtain ⟨h60, hr, hst⟩ := ho2
 have h : GG g := ⟨hg, hr⟩
 have hsg : ∀ s ∈ l, SG g s := fun s hm => stateE_SG (hst s hm)
 have hD : (hsG g).D = DD g := hsN_D g (DD g) _ _
 have hres := (n_resolve (P := P) g (hsG g) l h (SL.of h h60 hsg)).weak (VLes.cons (hF_le g (hsG g)) (VLes.same VLes.nil))
 rw [hD] at hres
 have hgt : decide ((l.length : Int) > 60) = false := by simp; omega
 have hany : (l.any fun s => !stateE g s) = false := by
   rw [List.any_eq_false]
   intro s hm
   rw [hst s hm]; decide
 have hcf := c_containsFSS (P := P) l 54 [.fptr (encGr g) 0] (fun s => !stateE g s) ⟨encGr_ref1 _ g, trivial⟩ (fun s hm => c_Resolve1 g s h (by have := hx.2 s hm; omega)) (by omega)
 refine LCon.of (n := 22) (rs := [.tmp 4]) (Is.fn Tryz.func25) rfl (Is.call Tryz.call25) Tryz.results25 Tryz.ntmps25 ?_
 simp only [method_specs_simp, seval, encGr]
 simp only [method_specs_simp, seval, encGr, hgt]
 refine clY.con (c_GraphRight g hg) (by simp only [method_specs_simp, encGr]) ?_
 rw [hr]
 simp only [method_specs_simp, seval, encGr]
 refine clY.conF hcf (by simp only [method_specs_simp, encGr]) ⟨of_eq_true (encSS_refs _ l), ⟨trivial, encGr_ref1 _ g, trivial⟩, trivial⟩ trivial ?_
 rw [hany]
 simp only [method_specs_simp, seval, encGr]
 refine clY.con (c_newHistory g h) (by simp only [method_specs_simp, encGr]) ?_
 simp only [method_specs_simp, seval, encGr]
 refine clY.new hres ⟨hF_ref _ g _, of_eq_true (encSS_refs _ l), trivial⟩ ?_
 simp only [method_specs_simp, seval, encGr]
 refine LResY.mk [1] ?_
 simp only [mvcgen_simp, method_specs_simp, seval, encGr]
theorem c_ResolveZ (g : Gr) (l : List (List Ent)) (hg : GrOK g) (hx : SSOK l) (ho : okRes g l = false) : Con P 25 [.agg (encGr g), .sl 1 (l.map encSS)] .nil := by
 have hx1 := hx.1
 refine Con.of (n := 22) (rs := [.tmp 4]) (Is.fn Tryz.func25) rfl (Is.call Tryz.call25) Tryz.results25 Tryz.ntmps25 trivial ?_
 simp only [method_specs_simp, seval, encGr]
 unfold okRes at ho
 cases hl : decide (l.length ≤ 60) with
 | false =>
   have hgt : decide ((l.length : Int) > 60) = true := by simp at hl ⊢; omega
   simp only [method_specs_simp, seval, encGr, hgt]
 | true =>
   have hgt : decide ((l.length : Int) > 60) = false := by simp at hl ⊢; omega
   rw [hl, Bool.true_and] at ho
   simp only [method_specs_simp, seval, encGr, hgt]
   refine clY.con (c_GraphRight g hg) (by simp only [method_specs_simp, encGr]) ?_
   cases hr : Gm.grRight g with
   | false =>
     simp only [method_specs_simp, seval, encGr]
   | true =>
     have h : GG g := ⟨hg, hr⟩
     rw [hr, Bool.true_and] at ho
     have hany : (l.any fun s => !stateE g s) = true := by
       rw [← Bool.not_eq_true, List.all_eq_true] at ho
       rw [List.any_eq_true]
       refine Classical.byContradiction fun hc => ho fun s hm => ?_
       cases hb : stateE g s with
       | true => rfl
       | false => exact absurd ⟨s, hm, by rw [hb]; rfl⟩ hc
     have hcf := c_containsFSS (P := P) l 54 [.fptr (encGr g) 0] (fun s => !stateE g s) ⟨encGr_ref1 _ g, trivial⟩ (fun s hm => c_Resolve1 g s h (by have := hx.2 s hm; omega)) (by omega)
     simp only [method_specs_simp, seval, encGr]
     refine clY.conF hcf (by simp only [method_specs_simp, encGr]) ⟨of_eq_true (encSS_refs _ l), ⟨trivial, encGr_ref1 _ g, trivial⟩, trivial⟩ trivial ?_
     rw [hany]
     simp only [method_specs_simp, seval, encGr]
theorem c_sResolve (g : Gr) (l : List (List Ent)) (hg : GrOK g) (hx : SSOK l) (ho : okRes g l = true) : Con P 23 [.agg (encGr g), .sl 1 (l.map encSS)] (.sl 3 ((resI g (DD g) l).map encEnt)) := by
 have ho2 := ho
 unfold okRes at ho2
 simp only [Bool.and_eq_true, decide_eq_true_eq, List.all_eq_true] at ho2
 obtain ⟨h60, hr, hst⟩ := ho2
 have h : GG g := ⟨hg, hr⟩
 have hsg : ∀ s ∈ l, SG g s := fun s hm => stateE_SG (hst s hm)
 have hgt : decide ((l.length : Int) > 60) = false := by simp; omega
 refine Con.ofS (n := 35) (rs := [.tmp 4]) (Is.fn Tryz.func23) rfl (Is.call Tryz.call23) Tryz.results23 Tryz.ntmps23 (by simp only [method_specs_simp]) ?_
 refine SW.seq (CW.sound ?_)
 simp only [method_specs_simp, seval, encGr]
 refine SW.seq (CW.sound ?_)
 simp only [method_specs_simp, seval, encGr]
 refine clY.con (c_sGraphRight g hg) (by simp only [method_specs_simp, encGr]) ?_
 rw [hr]
 simp only [method_specs_simp, seval, encGr, hgt]
 refine SW.seq (CW.sound ?_)
 simp only [method_specs_simp, seval, encGr]
 refine SW.while (A := Nat) (fun i => ⟨pad 35 [.junk, .sl 1 (l.map encSS), .ptr 0 0, .junk, .nil, .int .i64 i], [.box true (encGr g)], []⟩) (fun i => l.length - i) (fun i => i ≤ l.length) 0 [0] (Nat.zero_le _) ?_ ?_
 · simp only [mvcgen_simp, method_specs_simp, seval, encGr]
 · intro i hi
   have w1 : IntKind.i64.wrap ((i : Int) + 1) = ((i + 1 : Nat) : Int) := wadd1 i (by omega)
   refine CW.sound ?_
   simp only [method_specs_simp, seval, encGr]
   refine gB_split (fun h1 => ?_) (fun h1 => ?_)
   · simp only [decide_eq_true_eq, Int.ofNat_lt] at h1
     obtain ⟨s, hs⟩ : ∃ s, l[i]? = some s := ⟨_, List.getElem?_eq_getElem h1⟩
     have hsm := List.mem_of_getElem? hs
     have hsl := hx.2 s hsm
     simp only [method_specs_simp, seval, encGr, hs, encSS]
     refine ⟨by kernel_rfl, by omega, by omega, ?_⟩
     refine clY.con (c_l05State g s hg hsl) (by simp only [method_specs_simp, encGr]) ?_
     rw [hst s hsm]
     simp only [method_specs_simp, seval, encGr]
     refine Again.mk (i + 1) [0] h1 (Nat.sub_lt_sub_left h1 (Nat.lt_succ_self _)) ?_
     simp only [mvcgen_simp, method_specs_simp, seval, encGr, w1]
   · refine CW.sound ?_
     simp only [method_specs_simp, seval, encGr]
     refine ⟨by kernel_rfl, ?_⟩
     refine clY.con (c_l03Depths g.events hg.1 h.ain) (by simp only [method_specs_simp]) ?_
     simp only [method_specs_simp, seval, encGr]
     refine clY.con (c_l06Resolve g l h hsg h60) ⟨encGr_ref1 _ g, of_eq_true (encI_refs _ _), of_eq_true (encSS_refs _ _), trivial⟩ ?_
     simp only [method_specs_simp, seval, encGr]
theorem c_sResolveZ (g : Gr) (l : List (List Ent)) (hg : GrOK g) (hx : SSOK l) (ho : okRes g l = false) : Con P 23 [.agg (encGr g), .sl 1 (l.map encSS)] (.sl 3 (([] : List Ent).map encEnt)) := by
 have hx1 := hx.1
 refine Con.ofS (n := 35) (rs := [.tmp 4]) (Is.fn Tryz.func23) rfl (Is.call Tryz.call23) Tryz.results23 Tryz.ntmps23 trivial ?_
 refine SW.seq (CW.sound ?_)
 simp only [method_specs_simp, seval, encGr]
 refine SW.seq (CW.sound ?_)
 simp only [method_specs_simp, seval, encGr]
 refine clY.con (c_sGraphRight g hg) (by simp only [method_specs_simp, encGr]) ?_
 unfold okRes at ho
 cases hr : Gm.grRight g with
 | false =>
   simp only [method_specs_simp, seval, encGr, List.map_nil]
 | true =>
   rw [hr, Bool.true_and] at ho
   cases hl : decide (l.length ≤ 60) with
   | false =>
     have hgt : decide ((l.length : Int) > 60) = true := by simp at hl ⊢; omega
     simp only [method_specs_simp, seval, encGr, hgt, List.map_nil]
   | true =>
     have hgt : decide ((l.length : Int) > 60) = false := by simp at hl ⊢; omega
     rw [hl, Bool.true_and] at ho
     simp only [method_specs_simp, seval, encGr, hgt]
     refine SW.seq (CW.sound ?_)
     simp only [method_specs_simp, seval, encGr]
     refine SW.while (A := Nat) (fun i => ⟨pad 35 [.junk, .sl 1 (l.map encSS), .ptr 0 0, .junk, .nil, .int .i64 i], [.box true (encGr g)], []⟩) (fun i => l.length - i) (fun i => i ≤ l.length ∧ (l.drop i).all (stateE g) = false) 0 [0] ⟨Nat.zero_le _, ho⟩ ?_ ?_
     · simp only [mvcgen_simp, method_specs_simp, seval, encGr]
     · rintro i ⟨hi, hd⟩
       have w1 : IntKind.i64.wrap ((i : Int) + 1) = ((i + 1 : Nat) : Int) := wadd1 i (by omega)
       refine CW.sound ?_
       simp only [method_specs_simp, seval, encGr]
       refine gB_split (fun h1 => ?_) (fun h1 => ?_)
       · simp only [decide_eq_true_eq, Int.ofNat_lt] at h1
         obtain ⟨s, hs⟩ : ∃ s, l[i]? = some s := ⟨_, List.getElem?_eq_getElem h1⟩
         have hsm := List.mem_of_getElem? hs
         have hsl := hx.2 s hsm
         rw [drop_cons hs, List.all_cons] at hd
         simp only [method_specs_simp, seval, encGr, hs, encSS]
         refine ⟨by kernel_rfl, by omega, by omega, ?_⟩
         refine clY.con (c_l05State g s hg hsl) (by simp only [method_specs_simp, encGr]) ?_
         cases hb : stateE g s with
         | false =>
           simp only [method_specs_simp, seval, encGr, List.map_nil]
         | true =>
           rw [hb, Bool.true_and] at hd
           simp only [method_specs_simp, seval, encGr]
           refine Again.mk (i + 1) [0] ⟨h1, hd⟩ (Nat.sub_lt_sub_left h1 (Nat.lt_succ_self _)) ?_
           simp only [mvcgen_simp, method_specs_simp, seval, encGr, w1]
       · exfalso
         simp only [decide_eq_false_iff_not, Bool.not_true, Int.ofNat_lt] at h1
         rw [List.drop_eq_nil_of_le (by omega)] at hd
         cases hd
end
end Go.Proofs.YtdldgbkdcpdbeaaGreat
end

section
namespace Go.Proofs.YtdldgbkdcpdbeaaGreat
open Go.Pm
open Go.Gm (Ev Gr)
set_option maxHeartbeats 4000000
theorem LiesX.mk {A C m : List Ob} {b : Nat} {l : List (List Ent)} (h : A.length = b) (em : m = A ++ (obX b l ++ C)) : LiesX m b l := fun i ob hi => by
 subst em; subst h
 rw [List.getElem?_append_right (by omega), Nat.add_sub_cancel_left, List.getElem?_append_left (List.getElem?_eq_some_iff.1 hi).1]
 exact hi
theorem clY.segX {P : Program} {f : FuncId} {A L : List Ob} {rest : List V} {l l' : List (List Ent)} {r : V} {K KL : V → List Ob → Prop} (h : LCon P f (.ar 0 0 l.length :: rest) (obX 0 l) r (obX 0 l')) (hl : l'.length = l.length)
   (hr : Ref (fun _ => False) r) (hrest : Refs (fun _ => False) rest) (hcv : ∀ m, convs m rest = rest)
   (k : KL r (A ++ (obX A.length l' ++ L))) : @clY P (.fn f [] []) (.ar A.length 0 l.length :: rest) (A ++ (obX A.length l ++ L)) ⟨K, KL⟩ := by
 have hle : (obX 0 l').length = (obX 0 l).length := by rw [obX_len, obX_len, hl]
 refine clY.seg (A := A) (B := obX 0 l) (B' := obX 0 l') (C := L) h hle (fun ob ho => ⟨obX_refs l (by rw [obX_len]; omega) ob ho, obX_alive l ob ho⟩) (obX_refs l' (by rw [obX_len, hl]; omega)) ⟨?_, Refs.mono (fun _ h => h.elim) _ hrest⟩ (Ref.mono (fun _ h => h.elim) _ hr) ?_ ?_ ?_ ?_
 · rw [obX_len]
   show 0 < _
   omega
 · rw [obX_ren, List.append_assoc]
 · simp only [rens, V.ren, rens_pure _ hrest, List.nil_append, List.append_nil, Nat.add_zero]
 · have h1 : (A ++ (obX A.length l ++ L))[A.length]? = some (.arr true 1 (rowsX (A.length + 1) l)) := by
     rw [List.getElem?_append_right (Nat.le_refl _), Nat.sub_self]; rfl
   simp only [List.nil_append, List.append_nil, convs, hcv, conv, h1]
 · rw [V.ren_pure _ hr, obX_ren, List.append_assoc]; exact k
theorem clY.segX1 {P : Program} {f : FuncId} {m A X L : List Ob} {q : Nat} {rest : List V} {l l' : List (List Ent)} {r : V} {K KL : V → List Ob → Prop} (hm : m = A ++ (X ++ L)) (hA : A.length = q) (hX : X = obX q l) (h : LCon P f (.ar 0 0 l.length :: rest) (obX 0 l) r (obX 0 l')) (hl : l'.length = l.length)
   (hr : Ref (fun _ => False) r) (hrest : Refs (fun _ => False) rest) (hcv : ∀ m, convs m rest = rest)
   (k : KL r (A ++ (obX q l' ++ L))) : @clY P (.fn f [] []) (.ar q 0 l.length :: rest) m ⟨K, KL⟩ := by
 subst hA; subst hX; subst hm
 exact clY.segX h hl hr hrest hcv k
section
variable {P : Program} [Is P]
theorem resolve_law (g : Gr) (l : List (List Ent)) (zs : List Ent) (hg : GrOK g) (hx : SSOK l) (hz : zs.length < 2 ^ 40) (h46 : Con P 23 [.agg (encGr g), .sl 1 (l.map encSS)] (.sl 3 (zs.map encEnt))) (h47 : LCon P 25 [.agg (encGr g), .sl 1 (l.map encSS)] [] (.ar 0 0 zs.length) [.arr true 3 (zs.map encEnt)]) :
   Con P 6 [.agg (encGr g), .sl 1 (l.map encSS)] (.bool true) := by
 have hx1 := hx.1
 refine Con.of (n := 92) (rs := [.tmp 4]) (Is.fn Tryz.func6) rfl (Is.call Tryz.call6) Tryz.results6 Tryz.ntmps6 trivial ?_
 simp only [method_specs_simp, seval]
 refine clY.con (c_szGraph g 1048576 (by decide) (by decide) hg) (by simp only [method_specs_simp]) ?_
 simp only [method_specs_simp, seval]
 refine gB_split (fun _ => trivial) (fun w1 => ?_)
 obtain ⟨q1, q2, q3⟩ := sb_yes (wG_nn g) w1
 rw [q1]
 refine clY.con (c_szEntrySS l (1048576 - wG g) q3 (by omega) hx) ⟨of_eq_true (encSS_refs _ l), trivial, trivial⟩ ?_
 simp only [method_specs_simp, seval]
 refine gB_split (fun _ => trivial) (fun w2 => ?_)
 have hwl : 0 ≤ 1048576 - wG g - l.length - wSS l := by
   simp only [Bool.not_true, decide_eq_false_iff_not] at w2
   split at w2
   · omega
   · omega
 refine clY.con (c_toGraph g hg) (by simp only [method_specs_simp]) ?_
 simp only [method_specs_simp, seval]
 refine clY.con (c_toEntrySS l hx) ⟨of_eq_true (encSS_refs _ l), trivial⟩ ?_
 simp only [method_specs_simp, seval]
 refine clY.con h46 ⟨encGr_ref1 _ g, of_eq_true (encSS_refs _ l), trivial⟩ ?_
 simp only [method_specs_simp, seval]
 refine clY.newD 0 (n_toGraph g hg) (dcv_zero _ _) (by simp only [method_specs_simp]) (grV_flat 0 g) (obG_flat g) ?_
 obtain ⟨G, hG⟩ : ∃ G, G = obGb 1 g := ⟨_, rfl⟩
 obtain ⟨N, hN⟩ : ∃ N, N = g.events.length + 1 + (g.parked.length + 1) := ⟨_, rfl⟩
 have hp : Past G N := Past.mk' (by rw [hG, hN, obGb_len])
 have hA1 : ∀ L : List Ob, (G ++ L)[0]? = some (.arr true 9 (rowsEv 2 g.events)) := fun L => by rw [hG]; rfl
 have hA2 : ∀ (a : Ob) (L : List Ob), (a :: (G ++ L))[1 + (g.events.length + 1)]? = some (.arr true 9 (rowsEv (1 + (g.events.length + 1) + 1) g.parked)) := fun a L => by
   rw [hG]; exact obGb_one g a L
 simp only [method_specs_simp, seval, hp.len, hp.g0, hp.g, hp.b0, hp.b, hp.v0, hp.v, hp.a0, hp.a, hp.w0, hp.w, hp.s0, hp.s, List.append_assoc, List.cons_append, List.nil_append, obG_ren, grV, ← hG, hA1, hA2]
 have hL : ∀ (a : Ob) (L : List Ob), LiesG (a :: (G ++ L)) 1 g := fun a L => LiesG.mk (A := [a]) rfl (by rw [hG]; rfl)
 refine clY.newD 0 (n_toEntrySS l hx) (dcv_zero _ _) ⟨of_eq_true (encSS_refs _ l), trivial⟩ trivial (obX_flat 0 l) ?_
 rw [obX_ren]
 simp only [method_specs_simp, seval, hp.len, hp.g0, hp.g, hp.b0, hp.b, hp.v0, hp.v, hp.a0, hp.a, hp.w0, hp.w, hp.s0, hp.s, List.append_assoc, List.cons_append, List.nil_append]
 obtain ⟨X, hX⟩ : ∃ X, X = obX (N + 2) l := ⟨_, rfl⟩
 have hX1 : obX (N + 1 + 1) l = X := hX.symm
 rw [hX1]
 obtain ⟨bx, hbx⟩ : ∃ bx, bx = Ob.box true (grV 1 g) := ⟨_, rfl⟩
 have hGl : G.length = N := hp.len
 have hXl : X.length = l.length + 1 := by rw [hX, obX_len]
 have hx0 : Past X X.length := Past.mk' rfl
 have hLX : ∀ (a b : Ob) (L : List Ob), LiesX (a :: (G ++ b :: (X ++ L))) (N + 2) l := fun a b L => LiesX.mk (A := a :: (G ++ [b])) (C := L) (by simp [hGl]) (by rw [hX]; simp)
 refine clY.newD 3 h47 ?_ ⟨encGr_ref1 _ g, of_eq_true (encSS_refs _ l), trivial⟩ trivial (flat1 ⟨rfl, flat_ents _⟩) ?_
 · show [dcv 3 _ (.agg (grV 1 g)), dcv 3 _ (.ar (N + 2) 0 l.length)] = _
   rw [(hL _ _).dcv, LiesX.dcv 1 (show LiesX _ (N + 2) l by have := hLX (Ob.box true (encGr g)) bx []; rw [List.append_nil, hbx] at this; exact this)]
 simp only [method_specs_simp, seval, hp.len, hp.g0, hp.g, hp.b0, hp.b, hp.v0, hp.v, hp.a0, hp.a, hp.w0, hp.w, hp.s0, hp.s, hx0.len, hx0.g0, hx0.g, hx0.b0, hx0.b, hx0.v0, hx0.v, hx0.a0, hx0.a, hx0.w0, hx0.w, hx0.s0, hx0.s, List.append_assoc, List.cons_append, List.nil_append]
 refine clY.conD 1 (c57 zs zs (by omega)) ?_ ⟨of_eq_true (encEnt_refs _ zs), of_eq_true (encEnt_refs _ zs), trivial⟩ trivial ?_
 · show [dcv 1 _ (.ar (N + (X.length + 1) + 1) 0 zs.length), dcv 1 _ (.sl 3 (zs.map encEnt))] = _
   rw [dcv_flat (zs := zs.map encEnt) (lv := true) (sz := 3)]
   rfl
   simp only [method_specs_simp, seval, hp.len, hp.g0, hp.g, hp.b0, hp.b, hp.v0, hp.v, hp.a0, hp.a, hp.w0, hp.w, hp.s0, hp.s, hx0.len, hx0.g0, hx0.g, hx0.b0, hx0.b, hx0.v0, hx0.v, hx0.a0, hx0.a, hx0.w0, hx0.w, hx0.s0, hx0.s, List.append_assoc, List.cons_append, List.nil_append]
   rw [List.length_map]
 simp only [method_specs_simp, seval, hp.len, hp.g0, hp.g, hp.b0, hp.b, hp.v0, hp.v, hp.a0, hp.a, hp.w0, hp.w, hp.s0, hp.s, hx0.len, hx0.g0, hx0.g, hx0.b0, hx0.b, hx0.v0, hx0.v, hx0.a0, hx0.a, hx0.w0, hx0.w, hx0.s0, hx0.s, List.append_assoc, List.cons_append, List.nil_append, eqEntS_same]
 refine ⟨by kernel_rfl, ?_⟩
 refine clY.con (c_toGraph g hg) (by simp only [method_specs_simp, hp.len, hp.g0, hp.g, hp.b0, hp.b, hp.v0, hp.v, hp.a0, hp.a, hp.w0, hp.w, hp.s0, hp.s, hx0.len, hx0.g0, hx0.g, hx0.b0, hx0.b, hx0.v0, hx0.v, hx0.a0, hx0.a, hx0.w0, hx0.w, hx0.s0, hx0.s, List.append_assoc, List.cons_append, List.nil_append]) ?_
 simp only [method_specs_simp, seval, hp.len, hp.g0, hp.g, hp.b0, hp.b, hp.v0, hp.v, hp.a0, hp.a, hp.w0, hp.w, hp.s0, hp.s, hx0.len, hx0.g0, hx0.g, hx0.b0, hx0.b, hx0.v0, hx0.v, hx0.a0, hx0.a, hx0.w0, hx0.w, hx0.s0, hx0.s, List.append_assoc, List.cons_append, List.nil_append]
 refine clY.conD 3 (c_eqGraph g hg) ?_ ⟨encGr_ref1 _ g, encGr_ref1 _ g, trivial⟩ trivial ?_
 · show [dcv 3 _ (.agg (grV 1 g)), dcv 3 _ (.agg (encGr g))] = _
   rw [(hL _ _).dcv, dcv_encG]
 simp only [method_specs_simp, seval, hp.len, hp.g0, hp.g, hp.b0, hp.b, hp.v0, hp.v, hp.a0, hp.a, hp.w0, hp.w, hp.s0, hp.s, hx0.len, hx0.g0, hx0.g, hx0.b0, hx0.b, hx0.v0, hx0.v, hx0.a0, hx0.a, hx0.w0, hx0.w, hx0.s0, hx0.s, List.append_assoc, List.cons_append, List.nil_append, Bool.not_true]
 refine clY.con (c_toEntrySS l hx) ⟨of_eq_true (encSS_refs _ l), trivial⟩ ?_
 simp only [method_specs_simp, seval, hp.len, hp.g0, hp.g, hp.b0, hp.b, hp.v0, hp.v, hp.a0, hp.a, hp.w0, hp.w, hp.s0, hp.s, hx0.len, hx0.g0, hx0.g, hx0.b0, hx0.b, hx0.v0, hx0.v, hx0.a0, hx0.a, hx0.w0, hx0.w, hx0.s0, hx0.s, List.append_assoc, List.cons_append, List.nil_append]
 refine clY.conD 3 (c_eqEntrySS l hx) ?_ ⟨of_eq_true (encSS_refs _ l), of_eq_true (encSS_refs _ l), trivial⟩ trivial ?_
 · show [dcv 3 _ (.ar (N + 2) 0 l.length), dcv 3 _ (.sl 1 (l.map encSS))] = _
   rw [dcv_ssn, LiesX.dcv 1 (hLX _ _ _)]
 simp only [method_specs_simp, seval, hp.len, hp.g0, hp.g, hp.b0, hp.b, hp.v0, hp.v, hp.a0, hp.a, hp.w0, hp.w, hp.s0, hp.s, hx0.len, hx0.g0, hx0.g, hx0.b0, hx0.b, hx0.v0, hx0.v, hx0.a0, hx0.a, hx0.w0, hx0.w, hx0.s0, hx0.s, List.append_assoc, List.cons_append, List.nil_append, Bool.not_true]
 have b1 := wM_le g.events
 have b2 := wM_le g.parked
 have b3 := wM_nn g.events
 have b4 := wM_nn g.parked
 have b5 := wSS_nn l
 have hwG : wG g = (g.events.length + wEs g.events) + (g.parked.length + wEs g.parked) := rfl
 refine clY.segG1 hG (n_markGraph g 1 (by decide) (by decide) hg (by omega)) (mGr_len 1 g) trivial ⟨trivial, trivial⟩ (fun m => by simp only [convs, conv]) ?_
 obtain ⟨G2, hG2⟩ : ∃ G2, G2 = obGb 1 (mGr 1 g) := ⟨_, rfl⟩
 have hp2 : Past G2 N := Past.mk' (by rw [hG2, hN, obGb_len]; simp only [mGr, mEvs_len])
 rw [← hG2]
 simp only [method_specs_simp, seval, hp2.len, hp2.g0, hp2.g, hp2.b0, hp2.b, hp2.v0, hp2.v, hp2.a0, hp2.a, hp2.w0, hp2.w, hp2.s0, hp2.s, hx0.len, hx0.g0, hx0.g, hx0.b0, hx0.b, hx0.v0, hx0.v, hx0.a0, hx0.a, hx0.w0, hx0.w, hx0.s0, hx0.s, List.append_assoc, List.cons_append, List.nil_append]
 obtain ⟨k1, hk1⟩ : ∃ k1, k1 = 1 + (wM g.events + wM g.parked) := ⟨_, rfl⟩
 rw [← hk1]
 have hG2l : G2.length = N := hp2.len
 refine clY.segX1 (A := .box true (encGr g) :: (G2 ++ [Ob.box true [V.int IntKind.i64 g.room, V.ar 1 0 g.events.length, V.ar (1 + (g.events.length + 1)) 0 g.parked.length]])) (L := [.arr true 3 (zs.map encEnt)]) (by simp) (by simp [hG2l]) hX (n_markEntrySS l k1 (by omega) hx (by omega)) (mSS_len k1 l) trivial ⟨trivial, trivial⟩ (fun m => by simp only [convs, conv]) ?_
 obtain ⟨X2, hX2⟩ : ∃ X2, X2 = obX (N + 2) (mSS k1 l) := ⟨_, rfl⟩
 have hX2l : X2.length = X.length := by rw [hX2, obX_len, mSS_len, hXl]
 have hx2 : Past X2 X.length := Past.mk' hX2l
 rw [← hX2]
 have hk2 : decide (k1 + 3 * wSS l < 0) = false := decide_eq_false (by omega)
 simp only [method_specs_simp, seval, hk2, hp2.len, hp2.g0, hp2.g, hp2.b0, hp2.b, hp2.v0, hp2.v, hp2.a0, hp2.a, hp2.w0, hp2.w, hp2.s0, hp2.s, hx2.len, hx2.g0, hx2.g, hx2.b0, hx2.b, hx2.v0, hx2.v, hx2.a0, hx2.a, hx2.w0, hx2.w, hx2.s0, hx2.s, List.append_assoc, List.cons_append, List.nil_append]
 refine clY.conD 1 (c57 zs zs (by omega)) ?_ ⟨of_eq_true (encEnt_refs _ zs), of_eq_true (encEnt_refs _ zs), trivial⟩ trivial ?_
 · show [dcv 1 _ (.ar (N + (X.length + 1) + 1) 0 zs.length), dcv 1 _ (.sl 3 (zs.map encEnt))] = _
   rw [dcv_flat (zs := zs.map encEnt) (lv := true) (sz := 3)]
   rfl
   simp only [method_specs_simp, seval, hk2, hp2.len, hp2.g0, hp2.g, hp2.b0, hp2.b, hp2.v0, hp2.v, hp2.a0, hp2.a, hp2.w0, hp2.w, hp2.s0, hp2.s, hx2.len, hx2.g0, hx2.g, hx2.b0, hx2.b, hx2.v0, hx2.v, hx2.a0, hx2.a, hx2.w0, hx2.w, hx2.s0, hx2.s, List.append_assoc, List.cons_append, List.nil_append]
   rw [List.length_map]
 simp only [method_specs_simp, seval, hk2, hp2.len, hp2.g0, hp2.g, hp2.b0, hp2.b, hp2.v0, hp2.v, hp2.a0, hp2.a, hp2.w0, hp2.w, hp2.s0, hp2.s, hx2.len, hx2.g0, hx2.g, hx2.b0, hx2.b, hx2.v0, hx2.v, hx2.a0, hx2.a, hx2.w0, hx2.w, hx2.s0, hx2.s, List.append_assoc, List.cons_append, List.nil_append, eqEntS_same]
 have hmi := mEnts_length zs.length 1
 refine clY.at1 (q := N + (X.length + 1) + 1) (n58 zs 1 (by decide) (by decide) (by omega)) ?_ (pure_ents _ _) (pure_ents _ _) trivial ⟨trivial, trivial⟩ (by simp only [convs, conv]) ?_
 · simp only [method_specs_simp, seval, hk2, hp2.len, hp2.g0, hp2.g, hp2.b0, hp2.b, hp2.v0, hp2.v, hp2.a0, hp2.a, hp2.w0, hp2.w, hp2.s0, hp2.s, hx2.len, hx2.g0, hx2.g, hx2.b0, hx2.b, hx2.v0, hx2.v, hx2.a0, hx2.a, hx2.w0, hx2.w, hx2.s0, hx2.s, List.append_assoc, List.cons_append, List.nil_append]
 have hk3 : decide (1 + 3 * (zs.length : Int) < 0) = false := decide_eq_false (by omega)
 simp only [method_specs_simp, seval, hk3, bne_self_eq_false, Bool.not_true, hp2.len, hp2.g0, hp2.g, hp2.b0, hp2.b, hp2.v0, hp2.v, hp2.a0, hp2.a, hp2.w0, hp2.w, hp2.s0, hp2.s, hx2.len, hx2.g0, hx2.g, hx2.b0, hx2.b, hx2.v0, hx2.v, hx2.a0, hx2.a, hx2.w0, hx2.w, hx2.s0, hx2.s, List.append_assoc, List.cons_append, List.nil_append]
 refine clY.conD 1 (c121 1 zs.length (by decide) (by decide) (by omega)) ?_ ⟨of_eq_true (encEnt_refs _ _), trivial, trivial⟩ trivial ?_
 · show [dcv 1 _ (.ar (N + (X.length + 1) + 1) 0 zs.length), dcv 1 _ (.int .i64 1)] = _
   rw [dcv_flat (zs := (mEnts 1 zs.length).map encEnt) (lv := true) (sz := 3)]
   rfl
   simp only [method_specs_simp, seval, hk3, bne_self_eq_false, Bool.not_true, hp2.len, hp2.g0, hp2.g, hp2.b0, hp2.b, hp2.v0, hp2.v, hp2.a0, hp2.a, hp2.w0, hp2.w, hp2.s0, hp2.s, hx2.len, hx2.g0, hx2.g, hx2.b0, hx2.b, hx2.v0, hx2.v, hx2.a0, hx2.a, hx2.w0, hx2.w, hx2.s0, hx2.s, List.append_assoc, List.cons_append, List.nil_append]
   rw [List.length_map, hmi]
 simp only [method_specs_simp, seval, hk3, bne_self_eq_false, Bool.not_true, hp2.len, hp2.g0, hp2.g, hp2.b0, hp2.b, hp2.v0, hp2.v, hp2.a0, hp2.a, hp2.w0, hp2.w, hp2.s0, hp2.s, hx2.len, hx2.g0, hx2.g, hx2.b0, hx2.b, hx2.v0, hx2.v, hx2.a0, hx2.a, hx2.w0, hx2.w, hx2.s0, hx2.s, List.append_assoc, List.cons_append, List.nil_append]
 refine clY.con (c_toGraph g hg) (by simp only [method_specs_simp, hk3, bne_self_eq_false, Bool.not_true, hp2.len, hp2.g0, hp2.g, hp2.b0, hp2.b, hp2.v0, hp2.v, hp2.a0, hp2.a, hp2.w0, hp2.w, hp2.s0, hp2.s, hx2.len, hx2.g0, hx2.g, hx2.b0, hx2.b, hx2.v0, hx2.v, hx2.a0, hx2.a, hx2.w0, hx2.w, hx2.s0, hx2.s, List.append_assoc, List.cons_append, List.nil_append]) ?_
 simp only [method_specs_simp, seval, hk3, bne_self_eq_false, Bool.not_true, hp2.len, hp2.g0, hp2.g, hp2.b0, hp2.b, hp2.v0, hp2.v, hp2.a0, hp2.a, hp2.w0, hp2.w, hp2.s0, hp2.s, hx2.len, hx2.g0, hx2.g, hx2.b0, hx2.b, hx2.v0, hx2.v, hx2.a0, hx2.a, hx2.w0, hx2.w, hx2.s0, hx2.s, List.append_assoc, List.cons_append, List.nil_append]
 refine clY.con (c_toEntrySS l hx) ⟨of_eq_true (encSS_refs _ l), trivial⟩ ?_
 simp only [method_specs_simp, seval, hk3, bne_self_eq_false, Bool.not_true, hp2.len, hp2.g0, hp2.g, hp2.b0, hp2.b, hp2.v0, hp2.v, hp2.a0, hp2.a, hp2.w0, hp2.w, hp2.s0, hp2.s, hx2.len, hx2.g0, hx2.g, hx2.b0, hx2.b, hx2.v0, hx2.v, hx2.a0, hx2.a, hx2.w0, hx2.w, hx2.s0, hx2.s, List.append_assoc, List.cons_append, List.nil_append]
 refine clY.newD 0 h47 (dcv_zero _ _) ⟨encGr_ref1 _ g, of_eq_true (encSS_refs _ l), trivial⟩ trivial (flat1 ⟨rfl, flat_ents _⟩) ?_
 simp only [method_specs_simp, seval, hk3, bne_self_eq_false, Bool.not_true, hp2.len, hp2.g0, hp2.g, hp2.b0, hp2.b, hp2.v0, hp2.v, hp2.a0, hp2.a, hp2.w0, hp2.w, hp2.s0, hp2.s, hx2.len, hx2.g0, hx2.g, hx2.b0, hx2.b, hx2.v0, hx2.v, hx2.a0, hx2.a, hx2.w0, hx2.w, hx2.s0, hx2.s, List.append_assoc, List.cons_append, List.nil_append]
 refine clY.conD 1 (c57 zs zs (by omega)) ?_ ⟨of_eq_true (encEnt_refs _ zs), of_eq_true (encEnt_refs _ zs), trivial⟩ trivial ?_
 · show [dcv 1 _ (.ar (N + (X.length + 1 + 1) + 1) 0 zs.length), dcv 1 _ (.sl 3 (zs.map encEnt))] = _
   rw [dcv_flat (zs := zs.map encEnt) (lv := true) (sz := 3)]
   rfl
   simp only [method_specs_simp, seval, hk3, bne_self_eq_false, Bool.not_true, hp2.len, hp2.g0, hp2.g, hp2.b0, hp2.b, hp2.v0, hp2.v, hp2.a0, hp2.a, hp2.w0, hp2.w, hp2.s0, hp2.s, hx2.len, hx2.g0, hx2.g, hx2.b0, hx2.b, hx2.v0, hx2.v, hx2.a0, hx2.a, hx2.w0, hx2.w, hx2.s0, hx2.s, List.append_assoc, List.cons_append, List.nil_append]
   rw [List.length_map]
 simp only [method_specs_simp, seval, hk3, bne_self_eq_false, Bool.not_true, hp2.len, hp2.g0, hp2.g, hp2.b0, hp2.b, hp2.v0, hp2.v, hp2.a0, hp2.a, hp2.w0, hp2.w, hp2.s0, hp2.s, hx2.len, hx2.g0, hx2.g, hx2.b0, hx2.b, hx2.v0, hx2.v, hx2.a0, hx2.a, hx2.w0, hx2.w, hx2.s0, hx2.s, List.append_assoc, List.cons_append, List.nil_append, eqEntS_same]
 refine clY.conD 1 (c121 1 zs.length (by decide) (by decide) (by omega)) ?_ ⟨of_eq_true (encEnt_refs _ _), trivial, trivial⟩ trivial ?_
 · show [dcv 1 _ (.ar (N + (X.length + 1) + 1) 0 zs.length), dcv 1 _ (.int .i64 1)] = _
   rw [dcv_flat (zs := (mEnts 1 zs.length).map encEnt) (lv := true) (sz := 3)]
   rfl
   simp only [method_specs_simp, seval, hk3, bne_self_eq_false, Bool.not_true, hp2.len, hp2.g0, hp2.g, hp2.b0, hp2.b, hp2.v0, hp2.v, hp2.a0, hp2.a, hp2.w0, hp2.w, hp2.s0, hp2.s, hx2.len, hx2.g0, hx2.g, hx2.b0, hx2.b, hx2.v0, hx2.v, hx2.a0, hx2.a, hx2.w0, hx2.w, hx2.s0, hx2.s, List.append_assoc, List.cons_append, List.nil_append]
   rw [List.length_map, hmi]
 simp only [method_specs_simp, seval, hk3, bne_self_eq_false, Bool.not_true, hp2.len, hp2.g0, hp2.g, hp2.b0, hp2.b, hp2.v0, hp2.v, hp2.a0, hp2.a, hp2.w0, hp2.w, hp2.s0, hp2.s, hx2.len, hx2.g0, hx2.g, hx2.b0, hx2.b, hx2.v0, hx2.v, hx2.a0, hx2.a, hx2.w0, hx2.w, hx2.s0, hx2.s, List.append_assoc, List.cons_append, List.nil_append]
theorem resolve_lawZ (g : Gr) (l : List (List Ent)) (hg : GrOK g) (hx : SSOK l) (h46 : Con P 23 [.agg (encGr g), .sl 1 (l.map encSS)] (.sl 3 (([] : List Ent).map encEnt))) (h47 : Con P 25 [.agg (encGr g), .sl 1 (l.map encSS)] .nil) :
   Con P 6 [.agg (encGr g), .sl 1 (l.map encSS)] (.bool true) := by
 have hx1 := hx.1
 refine Con.of (n := 92) (rs := [.tmp 4]) (Is.fn Tryz.func6) rfl (Is.call Tryz.call6) Tryz.results6 Tryz.ntmps6 trivial ?_
 simp only [method_specs_simp, seval]
 refine clY.con (c_szGraph g 1048576 (by decide) (by decide) hg) (by simp only [method_specs_simp]) ?_
 simp only [method_specs_simp, seval]
 refine gB_split (fun _ => trivial) (fun w1 => ?_)
 obtain ⟨q1, q2, q3⟩ := sb_yes (wG_nn g) w1
 rw [q1]
 refine clY.con (c_szEntrySS l (1048576 - wG g) q3 (by omega) hx) ⟨of_eq_true (encSS_refs _ l), trivial, trivial⟩ ?_
 simp only [method_specs_simp, seval]
 refine gB_split (fun _ => trivial) (fun w2 => ?_)
 have hwl : 0 ≤ 1048576 - wG g - l.length - wSS l := by
   simp only [Bool.not_true, decide_eq_false_iff_not] at w2
   split at w2
   · omega
   · omega
 refine clY.con (c_toGraph g hg) (by simp only [method_specs_simp]) ?_
 simp only [method_specs_simp, seval]
 refine clY.con (c_toEntrySS l hx) ⟨of_eq_true (encSS_refs _ l), trivial⟩ ?_
 simp only [method_specs_simp, seval]
 refine clY.con h46 ⟨encGr_ref1 _ g, of_eq_true (encSS_refs _ l), trivial⟩ ?_
 simp only [method_specs_simp, seval]
 refine clY.newD 0 (n_toGraph g hg) (dcv_zero _ _) (by simp only [method_specs_simp]) (grV_flat 0 g) (obG_flat g) ?_
 obtain ⟨G, hG⟩ : ∃ G, G = obGb 1 g := ⟨_, rfl⟩
 obtain ⟨N, hN⟩ : ∃ N, N = g.events.length + 1 + (g.parked.length + 1) := ⟨_, rfl⟩
 have hp : Past G N := Past.mk' (by rw [hG, hN, obGb_len])
 have hA1 : ∀ L : List Ob, (G ++ L)[0]? = some (.arr true 9 (rowsEv 2 g.events)) := fun L => by rw [hG]; rfl
 have hA2 : ∀ (a : Ob) (L : List Ob), (a :: (G ++ L))[1 + (g.events.length + 1)]? = some (.arr true 9 (rowsEv (1 + (g.events.length + 1) + 1) g.parked)) := fun a L => by
   rw [hG]; exact obGb_one g a L
 simp only [method_specs_simp, seval, hp.len, hp.g0, hp.g, hp.b0, hp.b, hp.v0, hp.v, hp.a0, hp.a, hp.w0, hp.w, hp.s0, hp.s, List.append_assoc, List.cons_append, List.nil_append, obG_ren, grV, ← hG, hA1, hA2]
 have hL : ∀ (a : Ob) (L : List Ob), LiesG (a :: (G ++ L)) 1 g := fun a L => LiesG.mk (A := [a]) rfl (by rw [hG]; rfl)
 refine clY.newD 0 (n_toEntrySS l hx) (dcv_zero _ _) ⟨of_eq_true (encSS_refs _ l), trivial⟩ trivial (obX_flat 0 l) ?_
 rw [obX_ren]
 simp only [method_specs_simp, seval, hp.len, hp.g0, hp.g, hp.b0, hp.b, hp.v0, hp.v, hp.a0, hp.a, hp.w0, hp.w, hp.s0, hp.s, List.append_assoc, List.cons_append, List.nil_append]
 obtain ⟨X, hX⟩ : ∃ X, X = obX (N + 2) l := ⟨_, rfl⟩
 have hX1 : obX (N + 1 + 1) l = X := hX.symm
 rw [hX1]
 obtain ⟨bx, hbx⟩ : ∃ bx, bx = Ob.box true (grV 1 g) := ⟨_, rfl⟩
 have hGl : G.length = N := hp.len
 have hXl : X.length = l.length + 1 := by rw [hX, obX_len]
 have hx0 : Past X X.length := Past.mk' rfl
 have hLX : ∀ (a b : Ob) (L : List Ob), LiesX (a :: (G ++ b :: (X ++ L))) (N + 2) l := fun a b L => LiesX.mk (A := a :: (G ++ [b])) (C := L) (by simp [hGl]) (by rw [hX]; simp)
 refine clY.conD 3 h47 ?_ ⟨encGr_ref1 _ g, of_eq_true (encSS_refs _ l), trivial⟩ trivial ?_
 · show [dcv 3 _ (.agg (grV 1 g)), dcv 3 _ (.ar (N + 2) 0 l.length)] = _
   rw [(hL _ _).dcv, LiesX.dcv 1 (show LiesX _ (N + 2) l by have := hLX (Ob.box true (encGr g)) bx []; rw [List.append_nil, hbx] at this; exact this)]
 simp only [method_specs_simp, seval, hp.len, hp.g0, hp.g, hp.b0, hp.b, hp.v0, hp.v, hp.a0, hp.a, hp.w0, hp.w, hp.s0, hp.s, hx0.len, hx0.g0, hx0.g, hx0.b0, hx0.b, hx0.v0, hx0.v, hx0.a0, hx0.a, hx0.w0, hx0.w, hx0.s0, hx0.s, List.append_assoc, List.cons_append, List.nil_append]
 refine clY.con (c_eqNilE) (by simp only [method_specs_simp, hp.len, hp.g0, hp.g, hp.b0, hp.b, hp.v0, hp.v, hp.a0, hp.a, hp.w0, hp.w, hp.s0, hp.s, hx0.len, hx0.g0, hx0.g, hx0.b0, hx0.b, hx0.v0, hx0.v, hx0.a0, hx0.a, hx0.w0, hx0.w, hx0.s0, hx0.s, List.append_assoc, List.cons_append, List.nil_append]) ?_
 simp only [method_specs_simp, seval, hp.len, hp.g0, hp.g, hp.b0, hp.b, hp.v0, hp.v, hp.a0, hp.a, hp.w0, hp.w, hp.s0, hp.s, hx0.len, hx0.g0, hx0.g, hx0.b0, hx0.b, hx0.v0, hx0.v, hx0.a0, hx0.a, hx0.w0, hx0.w, hx0.s0, hx0.s, List.append_assoc, List.cons_append, List.nil_append]
 refine ⟨by kernel_rfl, ?_⟩
 refine clY.con (c_toGraph g hg) (by simp only [method_specs_simp, hp.len, hp.g0, hp.g, hp.b0, hp.b, hp.v0, hp.v, hp.a0, hp.a, hp.w0, hp.w, hp.s0, hp.s, hx0.len, hx0.g0, hx0.g, hx0.b0, hx0.b, hx0.v0, hx0.v, hx0.a0, hx0.a, hx0.w0, hx0.w, hx0.s0, hx0.s, List.append_assoc, List.cons_append, List.nil_append]) ?_
 simp only [method_specs_simp, seval, hp.len, hp.g0, hp.g, hp.b0, hp.b, hp.v0, hp.v, hp.a0, hp.a, hp.w0, hp.w, hp.s0, hp.s, hx0.len, hx0.g0, hx0.g, hx0.b0, hx0.b, hx0.v0, hx0.v, hx0.a0, hx0.a, hx0.w0, hx0.w, hx0.s0, hx0.s, List.append_assoc, List.cons_append, List.nil_append]
 refine clY.conD 3 (c_eqGraph g hg) ?_ ⟨encGr_ref1 _ g, encGr_ref1 _ g, trivial⟩ trivial ?_
 · show [dcv 3 _ (.agg (grV 1 g)), dcv 3 _ (.agg (encGr g))] = _
   rw [(hL _ _).dcv, dcv_encG]
 simp only [method_specs_simp, seval, hp.len, hp.g0, hp.g, hp.b0, hp.b, hp.v0, hp.v, hp.a0, hp.a, hp.w0, hp.w, hp.s0, hp.s, hx0.len, hx0.g0, hx0.g, hx0.b0, hx0.b, hx0.v0, hx0.v, hx0.a0, hx0.a, hx0.w0, hx0.w, hx0.s0, hx0.s, List.append_assoc, List.cons_append, List.nil_append, Bool.not_true]
 refine clY.con (c_toEntrySS l hx) ⟨of_eq_true (encSS_refs _ l), trivial⟩ ?_
 simp only [method_specs_simp, seval, hp.len, hp.g0, hp.g, hp.b0, hp.b, hp.v0, hp.v, hp.a0, hp.a, hp.w0, hp.w, hp.s0, hp.s, hx0.len, hx0.g0, hx0.g, hx0.b0, hx0.b, hx0.v0, hx0.v, hx0.a0, hx0.a, hx0.w0, hx0.w, hx0.s0, hx0.s, List.append_assoc, List.cons_append, List.nil_append]
 refine clY.conD 3 (c_eqEntrySS l hx) ?_ ⟨of_eq_true (encSS_refs _ l), of_eq_true (encSS_refs _ l), trivial⟩ trivial ?_
 · show [dcv 3 _ (.ar (N + 2) 0 l.length), dcv 3 _ (.sl 1 (l.map encSS))] = _
   rw [dcv_ssn, LiesX.dcv 1 (show LiesX _ (N + 2) l by have := hLX (Ob.box true (encGr g)) bx []; rw [List.append_nil, hbx] at this; exact this)]
 simp only [method_specs_simp, seval, hp.len, hp.g0, hp.g, hp.b0, hp.b, hp.v0, hp.v, hp.a0, hp.a, hp.w0, hp.w, hp.s0, hp.s, hx0.len, hx0.g0, hx0.g, hx0.b0, hx0.b, hx0.v0, hx0.v, hx0.a0, hx0.a, hx0.w0, hx0.w, hx0.s0, hx0.s, List.append_assoc, List.cons_append, List.nil_append, Bool.not_true]
 have b1 := wM_le g.events
 have b2 := wM_le g.parked
 have b3 := wM_nn g.events
 have b4 := wM_nn g.parked
 have b5 := wSS_nn l
 have hwG : wG g = (g.events.length + wEs g.events) + (g.parked.length + wEs g.parked) := rfl
 refine clY.segG1 hG (n_markGraph g 1 (by decide) (by decide) hg (by omega)) (mGr_len 1 g) trivial ⟨trivial, trivial⟩ (fun m => by simp only [convs, conv]) ?_
 obtain ⟨G2, hG2⟩ : ∃ G2, G2 = obGb 1 (mGr 1 g) := ⟨_, rfl⟩
 have hp2 : Past G2 N := Past.mk' (by rw [hG2, hN, obGb_len]; simp only [mGr, mEvs_len])
 rw [← hG2]
 simp only [method_specs_simp, seval, hp2.len, hp2.g0, hp2.g, hp2.b0, hp2.b, hp2.v0, hp2.v, hp2.a0, hp2.a, hp2.w0, hp2.w, hp2.s0, hp2.s, hx0.len, hx0.g0, hx0.g, hx0.b0, hx0.b, hx0.v0, hx0.v, hx0.a0, hx0.a, hx0.w0, hx0.w, hx0.s0, hx0.s, List.append_assoc, List.cons_append, List.nil_append]
 obtain ⟨k1, hk1⟩ : ∃ k1, k1 = 1 + (wM g.events + wM g.parked) := ⟨_, rfl⟩
 rw [← hk1]
 have hG2l : G2.length = N := hp2.len
 refine clY.segX1 (A := .box true (encGr g) :: (G2 ++ [Ob.box true [V.int IntKind.i64 g.room, V.ar 1 0 g.events.length, V.ar (1 + (g.events.length + 1)) 0 g.parked.length]])) (L := []) (by simp) (by simp [hG2l]) hX (n_markEntrySS l k1 (by omega) hx (by omega)) (mSS_len k1 l) trivial ⟨trivial, trivial⟩ (fun m => by simp only [convs, conv]) ?_
 obtain ⟨X2, hX2⟩ : ∃ X2, X2 = obX (N + 2) (mSS k1 l) := ⟨_, rfl⟩
 have hX2l : X2.length = X.length := by rw [hX2, obX_len, mSS_len, hXl]
 have hx2 : Past X2 X.length := Past.mk' hX2l
 rw [← hX2]
 have hk2 : decide (k1 + 3 * wSS l < 0) = false := decide_eq_false (by omega)
 simp only [method_specs_simp, seval, hk2, List.append_nil, bne_self_eq_false, Bool.not_true, hp2.len, hp2.g0, hp2.g, hp2.b0, hp2.b, hp2.v0, hp2.v, hp2.a0, hp2.a, hp2.w0, hp2.w, hp2.s0, hp2.s, hx2.len, hx2.g0, hx2.g, hx2.b0, hx2.b, hx2.v0, hx2.v, hx2.a0, hx2.a, hx2.w0, hx2.w, hx2.s0, hx2.s, List.append_assoc, List.cons_append, List.nil_append]
 refine clY.con (c_eqNilE) (by simp only [method_specs_simp, hk2, List.append_nil, bne_self_eq_false, Bool.not_true, hp2.len, hp2.g0, hp2.g, hp2.b0, hp2.b, hp2.v0, hp2.v, hp2.a0, hp2.a, hp2.w0, hp2.w, hp2.s0, hp2.s, hx2.len, hx2.g0, hx2.g, hx2.b0, hx2.b, hx2.v0, hx2.v, hx2.a0, hx2.a, hx2.w0, hx2.w, hx2.s0, hx2.s, List.append_assoc, List.cons_append, List.nil_append]) ?_
 simp only [method_specs_simp, seval, hk2, List.append_nil, bne_self_eq_false, Bool.not_true, hp2.len, hp2.g0, hp2.g, hp2.b0, hp2.b, hp2.v0, hp2.v, hp2.a0, hp2.a, hp2.w0, hp2.w, hp2.s0, hp2.s, hx2.len, hx2.g0, hx2.g, hx2.b0, hx2.b, hx2.v0, hx2.v, hx2.a0, hx2.a, hx2.w0, hx2.w, hx2.s0, hx2.s, List.append_assoc, List.cons_append, List.nil_append]
 refine clY.con (c58m 1) (by simp only [method_specs_simp, hk2, List.append_nil, bne_self_eq_false, Bool.not_true, hp2.len, hp2.g0, hp2.g, hp2.b0, hp2.b, hp2.v0, hp2.v, hp2.a0, hp2.a, hp2.w0, hp2.w, hp2.s0, hp2.s, hx2.len, hx2.g0, hx2.g, hx2.b0, hx2.b, hx2.v0, hx2.v, hx2.a0, hx2.a, hx2.w0, hx2.w, hx2.s0, hx2.s, List.append_assoc, List.cons_append, List.nil_append]) ?_
 simp only [method_specs_simp, seval, hk2, List.append_nil, bne_self_eq_false, Bool.not_true, hp2.len, hp2.g0, hp2.g, hp2.b0, hp2.b, hp2.v0, hp2.v, hp2.a0, hp2.a, hp2.w0, hp2.w, hp2.s0, hp2.s, hx2.len, hx2.g0, hx2.g, hx2.b0, hx2.b, hx2.v0, hx2.v, hx2.a0, hx2.a, hx2.w0, hx2.w, hx2.s0, hx2.s, List.append_assoc, List.cons_append, List.nil_append]
 refine clY.con (c_heldNilE 1 (by decide) (by decide)) (by simp only [method_specs_simp, hk2, List.append_nil, bne_self_eq_false, Bool.not_true, hp2.len, hp2.g0, hp2.g, hp2.b0, hp2.b, hp2.v0, hp2.v, hp2.a0, hp2.a, hp2.w0, hp2.w, hp2.s0, hp2.s, hx2.len, hx2.g0, hx2.g, hx2.b0, hx2.b, hx2.v0, hx2.v, hx2.a0, hx2.a, hx2.w0, hx2.w, hx2.s0, hx2.s, List.append_assoc, List.cons_append, List.nil_append]) ?_
 simp only [method_specs_simp, seval, hk2, List.append_nil, bne_self_eq_false, Bool.not_true, hp2.len, hp2.g0, hp2.g, hp2.b0, hp2.b, hp2.v0, hp2.v, hp2.a0, hp2.a, hp2.w0, hp2.w, hp2.s0, hp2.s, hx2.len, hx2.g0, hx2.g, hx2.b0, hx2.b, hx2.v0, hx2.v, hx2.a0, hx2.a, hx2.w0, hx2.w, hx2.s0, hx2.s, List.append_assoc, List.cons_append, List.nil_append]
 refine clY.con (c_toGraph g hg) (by simp only [method_specs_simp, hk2, List.append_nil, bne_self_eq_false, Bool.not_true, hp2.len, hp2.g0, hp2.g, hp2.b0, hp2.b, hp2.v0, hp2.v, hp2.a0, hp2.a, hp2.w0, hp2.w, hp2.s0, hp2.s, hx2.len, hx2.g0, hx2.g, hx2.b0, hx2.b, hx2.v0, hx2.v, hx2.a0, hx2.a, hx2.w0, hx2.w, hx2.s0, hx2.s, List.append_assoc, List.cons_append, List.nil_append]) ?_
 simp only [method_specs_simp, seval, hk2, List.append_nil, bne_self_eq_false, Bool.not_true, hp2.len, hp2.g0, hp2.g, hp2.b0, hp2.b, hp2.v0, hp2.v, hp2.a0, hp2.a, hp2.w0, hp2.w, hp2.s0, hp2.s, hx2.len, hx2.g0, hx2.g, hx2.b0, hx2.b, hx2.v0, hx2.v, hx2.a0, hx2.a, hx2.w0, hx2.w, hx2.s0, hx2.s, List.append_assoc, List.cons_append, List.nil_append]
 refine clY.con (c_toEntrySS l hx) ⟨of_eq_true (encSS_refs _ l), trivial⟩ ?_
 simp only [method_specs_simp, seval, hk2, List.append_nil, bne_self_eq_false, Bool.not_true, hp2.len, hp2.g0, hp2.g, hp2.b0, hp2.b, hp2.v0, hp2.v, hp2.a0, hp2.a, hp2.w0, hp2.w, hp2.s0, hp2.s, hx2.len, hx2.g0, hx2.g, hx2.b0, hx2.b, hx2.v0, hx2.v, hx2.a0, hx2.a, hx2.w0, hx2.w, hx2.s0, hx2.s, List.append_assoc, List.cons_append, List.nil_append]
 refine clY.con h47 ⟨encGr_ref1 _ g, of_eq_true (encSS_refs _ l), trivial⟩ ?_
 simp only [method_specs_simp, seval, hk2, List.append_nil, bne_self_eq_false, Bool.not_true, hp2.len, hp2.g0, hp2.g, hp2.b0, hp2.b, hp2.v0, hp2.v, hp2.a0, hp2.a, hp2.w0, hp2.w, hp2.s0, hp2.s, hx2.len, hx2.g0, hx2.g, hx2.b0, hx2.b, hx2.v0, hx2.v, hx2.a0, hx2.a, hx2.w0, hx2.w, hx2.s0, hx2.s, List.append_assoc, List.cons_append, List.nil_append]
 refine clY.con (c_eqNilE) (by simp only [method_specs_simp, hk2, List.append_nil, bne_self_eq_false, Bool.not_true, hp2.len, hp2.g0, hp2.g, hp2.b0, hp2.b, hp2.v0, hp2.v, hp2.a0, hp2.a, hp2.w0, hp2.w, hp2.s0, hp2.s, hx2.len, hx2.g0, hx2.g, hx2.b0, hx2.b, hx2.v0, hx2.v, hx2.a0, hx2.a, hx2.w0, hx2.w, hx2.s0, hx2.s, List.append_assoc, List.cons_append, List.nil_append]) ?_
 simp only [method_specs_simp, seval, hk2, List.append_nil, bne_self_eq_false, Bool.not_true, hp2.len, hp2.g0, hp2.g, hp2.b0, hp2.b, hp2.v0, hp2.v, hp2.a0, hp2.a, hp2.w0, hp2.w, hp2.s0, hp2.s, hx2.len, hx2.g0, hx2.g, hx2.b0, hx2.b, hx2.v0, hx2.v, hx2.a0, hx2.a, hx2.w0, hx2.w, hx2.s0, hx2.s, List.append_assoc, List.cons_append, List.nil_append]
 refine clY.con (c_heldNilE 1 (by decide) (by decide)) (by simp only [method_specs_simp, hk2, List.append_nil, bne_self_eq_false, Bool.not_true, hp2.len, hp2.g0, hp2.g, hp2.b0, hp2.b, hp2.v0, hp2.v, hp2.a0, hp2.a, hp2.w0, hp2.w, hp2.s0, hp2.s, hx2.len, hx2.g0, hx2.g, hx2.b0, hx2.b, hx2.v0, hx2.v, hx2.a0, hx2.a, hx2.w0, hx2.w, hx2.s0, hx2.s, List.append_assoc, List.cons_append, List.nil_append]) ?_
 simp only [method_specs_simp, seval, hk2, List.append_nil, bne_self_eq_false, Bool.not_true, hp2.len, hp2.g0, hp2.g, hp2.b0, hp2.b, hp2.v0, hp2.v, hp2.a0, hp2.a, hp2.w0, hp2.w, hp2.s0, hp2.s, hx2.len, hx2.g0, hx2.g, hx2.b0, hx2.b, hx2.v0, hx2.v, hx2.a0, hx2.a, hx2.w0, hx2.w, hx2.s0, hx2.s, List.append_assoc, List.cons_append, List.nil_append]
theorem c_FnExactResolve (g : Gr) (l : List (List Ent)) (hg : GrOK g) (hx : SSOK l) : Con P 6 [.agg (encGr g), .sl 1 (l.map encSS)] (.bool true) := by
 cases ho : okRes g l with
 | true =>
   have ho2 := ho
   unfold okRes at ho2
   simp only [Bool.and_eq_true, decide_eq_true_eq, List.all_eq_true] at ho2
   obtain ⟨h60, hr, hst⟩ := ho2
   have h : GG g := ⟨hg, hr⟩
   have hle := (resI_ok (D := DD g) (SL.of h h60 fun s hm => stateE_SG (hst s hm))).2
   exact resolve_law g l _ hg hx (by omega) (c_sResolve g l hg hx ho) (n_Resolve g l hg hx ho)
 | false => exact resolve_lawZ g l hg hx (c_sResolveZ g l hg hx ho) (c_ResolveZ g l hg hx ho)
end
end Go.Proofs.YtdldgbkdcpdbeaaGreat
end

section
namespace Go.Proofs.YtdldgbkdcpdbeaaGreat
open Go.Pm
open Go.ChangeShapes Go.WideShapes Go.ChangeAt Go.RowKit
set_option maxRecDepth 100000
def tEntss : Ty := .sl 1 24 tEnts
theorem in_entss {xs : List V} (h : In tEntss xs) : ∃ l : List (List Ent), xs = [.sl 1 (l.map encSS)] ∧ SSOK l := by
 obtain ⟨rows, rfl, hl, hr⟩ := h
 obtain ⟨l, rfl, hq⟩ := list_map_ofG (p := fun a b => a = encSS b ∧ b.length * 24 ≤ 2 ^ 47) (q := fun b => b.length * 24 ≤ 2 ^ 47) (fun _ _ h => h) fun r hr' => by
   obtain ⟨s, h, hs⟩ := in_ents (hr r hr')
   have := reachBytes_lt
   exact ⟨s, h, by omega⟩
 have h0 := reachBytes_lt
 exact ⟨l, rfl, by simp only [List.length_map] at hl; omega, hq⟩
theorem ok_entss : OKT Tryz.prog tEntss 38 := by
 refine ⟨_, Tryz.underlying38, ok_ents, ?_, ?_, ?_⟩
 all_goals first | kernel_rfl | decide | (show (_ : Nat) = _; kernel_rfl)
end Go.Proofs.YtdldgbkdcpdbeaaGreat
end

section
namespace Go.Proofs.YtdldgbkdcpdbeaaGreat
set_option maxRecDepth 100000
theorem and_mk {a b : Bool} (ha : a = true) (hb : b = true) : (a && b) = true := by rw [ha, hb]; rfl
theorem p_own : ownKnob Tryz.prog.godebug = none := by kernel_rfl
theorem p_laid : laidOutB Tryz.prog = true := by kernel_rfl
theorem p_maps : mapsRowed Tryz.prog = true := by kernel_rfl
theorem p_stops : (Tryz.prog.stops == []) = true := by kernel_rfl
theorem p_knobs : (Tryz.prog.stopKnobs == []) = true := by kernel_rfl
theorem p_keys : Tryz.prog.plainKeys = true := by kernel_rfl
theorem p_heard : Tryz.prog.stopsHeard = true := by kernel_rfl
theorem p_enter : Tryz.prog.mayEnter = true := by kernel_rfl
end Go.Proofs.YtdldgbkdcpdbeaaGreat
end
