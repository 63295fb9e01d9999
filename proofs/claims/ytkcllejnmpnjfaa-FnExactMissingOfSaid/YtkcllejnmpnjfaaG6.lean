/- A right graph, by the reference. Conditions: sizes that fit a machine. -/
import Derived.Test.YtkcllejnmpnjfaaG4
namespace Go.Proofs.Ytkcllejnmpnjfaa
open Go.Pm
open Go.Gm (Ev Gr)
set_option maxRecDepth 10000
set_option linter.unusedSimpArgs false
set_option linter.unusedVariables false
/-- The place of an event, or -1. -/
def atI (l : List Ev) (id : Int) : Int := if Gm.hasId l id then ((Gm.fidE l id : Nat) : Int) else -1
theorem atI_yes {l : List Ev} {id : Int} (h : Gm.hasId l id = true) : atI l id = (Gm.fidE l id : Nat) := by unfold atI; rw [if_pos h]
theorem atI_no {l : List Ev} {id : Int} (h : Gm.hasId l id = false) : atI l id = -1 := by unfold atI; rw [if_neg (by simp [h])]
theorem atI_lt (l : List Ev) (id : Int) : decide (atI l id < 0) = !Gm.hasId l id := by
  cases h : Gm.hasId l id with
  | true => rw [atI_yes h]; simp
  | false => rw [atI_no h]; simp
theorem atI_ge (l : List Ev) (id : Int) : decide (atI l id ≥ 0) = Gm.hasId l id := by
  cases h : Gm.hasId l id with
  | true => rw [atI_yes h]; simp
  | false => rw [atI_no h]; simp
theorem dAt_fid {evs : List Ev} {d : List Int} (h : Gm.OkD evs d) {p : Int} (hp : Gm.hasId evs p = true) : d[Gm.fidE evs p]? = some (Gm.dAt evs d p) := by
  have h2 := Gm.fid_lt hp
  have h3 : Gm.fidE evs p < d.length := by rw [h.len]; exact h2
  unfold Gm.dAt
  rw [List.getElem?_eq_getElem h3, List.getD_eq_getElem?_getD, List.getElem?_eq_getElem h3]
  rfl
section
variable {P : Program} [Is P]
theorem c_l03At (xs : List Ev) (id : Int) (hx : xs.length < 2 ^ 62) : Con P 142 [.sl 9 (xs.map encEv), .int .i64 id] (.int .i64 (atI xs id)) := by
  refine Con.of (n := 20) (rs := [.tmp 4]) (Is.fn Try.func142) rfl (Is.call Try.call142) Try.results142 Try.ntmps142 trivial ?_
  simp (maxSteps := 4000000) only [method_specs_simp, seval]
  refine SW.while (A := Nat) (fun k => ⟨pad 20 [.sl 9 (xs.map encEv), .int .i64 id, .junk, .junk, .int .i64 0, .int .i64 k], [], []⟩) (fun k => xs.length - k)
    (fun k => k ≤ xs.length ∧ atI xs id = if (xs.drop k).any (fun e => e.id == id) then (k : Int) + (((xs.drop k).findIdx (fun e => e.id == id) : Nat) : Int) else -1) 0 [] ⟨Nat.zero_le _, by simp [atI, Gm.hasId, Gm.fidE]⟩ ?_ ?_
  · simp only [mvcgen_simp, method_specs_simp, seval]
  · rintro k ⟨hk, hr⟩
    rw [hr]
    refine CW.sound ?_
    simp (maxSteps := 4000000) only [method_specs_simp, seval]
    refine gB_split (fun h => ?_) (fun h => ?_)
    · simp only [decide_eq_true_eq, Int.ofNat_lt] at h
      obtain ⟨x, hxk⟩ : ∃ x, xs[k]? = some x := ⟨_, List.getElem?_eq_getElem h⟩
      rw [drop_cons hxk]
      simp (maxSteps := 4000000) only [List.getElem?_map, hxk, encEv, method_specs_simp, seval]
      refine ⟨by omega, by omega, ?_⟩
      refine gB_split (fun h1 => ?_) (fun h1 => ?_)
      · rw [idxP_hit (p := fun e : Ev => e.id == id) h1]
      · rw [wrap_id (by omega) (by omega), idxP_miss (p := fun e : Ev => e.id == id) h1]
        refine Again.mk (k + 1) [] ⟨h, rfl⟩ (Nat.sub_lt_sub_left h (Nat.lt_succ_self _)) ?_
        simp only [mvcgen_simp, method_specs_simp, seval]
    · simp only [decide_eq_false_iff_not, Bool.not_true, Int.ofNat_lt] at h
      rw [List.drop_eq_nil_of_le (by omega)]
      simp
theorem c_l03All (xs : List Ev) (e : Ev) (he : EvOK e) (hx : xs.length < 2 ^ 62) : Con P 190 [.sl 9 (xs.map encEv), .agg (encEv e)] (.bool (Gm.allIn xs e)) := by
  have he2 := he.2
  refine Con.of (n := 21) (rs := [.tmp 4]) (Is.fn Try.func190) rfl (Is.call Try.call190) Try.results190 Try.ntmps190 trivial ?_
  simp (maxSteps := 4000000) only [method_specs_simp, seval, encEv]
  refine SW.while (A := Nat) (fun k => ⟨pad 21 [.sl 9 (xs.map encEv), .junk, .junk, .ptr 0 0, .bool false, .int .i64 k], [.box true (encEv e)], []⟩) (fun k => e.prev.length - k)
    (fun k => k ≤ e.prev.length ∧ Gm.allIn xs e = (e.prev.drop k).all (Gm.hasId xs)) 0 [0] ⟨Nat.zero_le _, rfl⟩ ?_ ?_
  · simp only [mvcgen_simp, method_specs_simp, seval, encEv]
  · rintro k ⟨hk, hr⟩
    rw [hr]
    refine CW.sound ?_
    simp (maxSteps := 4000000) only [method_specs_simp, seval, encEv]
    refine gB_split (fun h => ?_) (fun h => ?_)
    · simp only [decide_eq_true_eq, Int.ofNat_lt] at h
      obtain ⟨x, hxk⟩ : ∃ x, e.prev[k]? = some x := ⟨_, List.getElem?_eq_getElem h⟩
      rw [drop_cons hxk]
      simp (maxSteps := 4000000) only [List.getElem?_map, hxk, encI, encEv, method_specs_simp, seval]
      refine ⟨by omega, by omega, ?_⟩
      refine clY.con (c_l03At xs x hx) (by simp only [method_specs_simp, encEv]) ?_
      simp (maxSteps := 4000000) only [method_specs_simp, seval, encEv]
      rw [atI_lt]
      refine gB_split (fun h1 => ?_) (fun h1 => ?_)
      · simp at h1
        simp [h1]
      · simp at h1
        rw [wrap_id (by omega) (by omega)]
        refine Again.mk (k + 1) [0] ⟨h, by simp [h1]⟩ (Nat.sub_lt_sub_left h (Nat.lt_succ_self _)) ?_
        simp only [mvcgen_simp, method_specs_simp, seval, encEv]
    · simp only [decide_eq_false_iff_not, Bool.not_true, Int.ofNat_lt] at h
      rw [List.drop_eq_nil_of_le (by omega)]
      simp
theorem c_l03Row (xs : List Ev) (room most : Int) (hx : EvsOK xs) : Con P 189 [.sl 9 (xs.map encEv), .int .i64 room, .int .i64 most] (.bool (Gm.rowR xs room most)) := by
  have hx1 := hx.1
  refine Con.of (n := 51) (rs := [.tmp 6]) (Is.fn Try.func189) rfl (Is.call Try.call189) Try.results189 Try.ntmps189 trivial ?_
  simp (maxSteps := 4000000) only [method_specs_simp, seval]
  refine gB_split (fun h => ?_) (fun h => ?_)
  · simp at h
    have : ¬ ((xs.length : Int) ≤ most) := by omega
    simp [Gm.rowR, this]
  · simp at h
    have : ((xs.length : Int) ≤ most) := by omega
    simp only [Gm.rowR, this, decide_true, Bool.true_and]
    refine SW.while (A := Nat) (fun k => ⟨pad 51 [.sl 9 (xs.map encEv), .int .i64 room, .int .i64 most, .junk, .junk, .junk, .bool false, .int .i64 k], [], []⟩) (fun k => xs.length - k)
      (fun k => k ≤ xs.length ∧ Gm.rowFrom room none xs = Gm.rowFrom room ((pv xs k).map (·.id)) (xs.drop k)) 0 [] ⟨Nat.zero_le _, rfl⟩ ?_ ?_
    · simp only [mvcgen_simp, method_specs_simp, seval]
    · rintro k ⟨hk, hr⟩
      rw [hr]
      refine CW.sound ?_
      simp (maxSteps := 4000000) only [method_specs_simp, seval]
      refine gB_split (fun h => ?_) (fun h => ?_)
      · simp only [decide_eq_true_eq, Int.ofNat_lt] at h
        have hxk : xs[k]? = some xs[k] := List.getElem?_eq_getElem h
        have hOK := hx.2 _ (List.getElem_mem h)
        generalize xs[k] = x at hxk hOK
        rw [drop_cons hxk, Gm.rowFrom]
        simp (maxSteps := 4000000) only [List.getElem?_map, hxk, encEv, method_specs_simp, seval]
        refine ⟨by kernel_rfl, by omega, by omega, ?_⟩
        refine clY.con (c_sEventRight x hOK) (by simp only [method_specs_simp]) ?_
        simp (maxSteps := 4000000) only [List.getElem?_map, hxk, encEv, method_specs_simp, seval]
        cases g1 : Gm.evRight x
        · simp (maxSteps := 4000000) only [method_specs_simp, seval]
          simp
        · have e2 : (x.room != room) = !(x.room == room) := rfl
          simp (maxSteps := 4000000) only [List.getElem?_map, hxk, encEv, e2, method_specs_simp, seval]
          refine ⟨by omega, by omega, ?_⟩
          cases g2 : (x.room == room)
          · simp (maxSteps := 4000000) only [method_specs_simp, seval]
            simp
          · simp (maxSteps := 4000000) only [method_specs_simp, seval]
            refine gB_split (fun h2 => ?_) (fun h2 => ?_)
            · simp at h2
              obtain ⟨j, rfl⟩ : ∃ j, k = j + 1 := ⟨k - 1, by omega⟩
              obtain ⟨y, hyk⟩ : ∃ y, xs[j]? = some y := ⟨_, List.getElem?_eq_getElem (by omega)⟩
              have e4 : IntKind.i64.wrap (((j + 1 : Nat) : Int) - 1) = (j : Int) := by rw [wrap_id (by omega) (by omega)]; omega
              have e8 : ((j : Int) + 1).toNat = j + 1 := by omega
              have ep : pv xs (j + 1) = some y := hyk
              have e7 : pv xs (j + 1 + 1) = some x := hxk
              rw [e4, ep]
              refine ⟨by omega, by omega, ?_⟩
              simp (maxSteps := 4000000) only [hyk, hxk, e8, Option.map_some, encEv, method_specs_simp, seval]
              refine ⟨by omega, by omega, ?_⟩
              refine gB_split (fun h3 => ?_) (fun h3 => ?_)
              · simp at h3
                simp [Gm.notLess, h3]
              · simp at h3
                have e9 : decide (y.id ≥ x.id) = false := by simp; exact h3
                rw [wrap_id (by omega) (by omega)]
                refine Again.mk (j + 1 + 1) [] ⟨h, ?_⟩ (Nat.sub_lt_sub_left h (Nat.lt_succ_self _)) ?_
                · rw [e7]
                  simp only [Option.map_some, Gm.notLess, e9, Bool.true_and, Bool.not_false]
                · simp only [mvcgen_simp, method_specs_simp, seval]
            · simp at h2
              have hk0 : k = 0 := by omega
              subst hk0
              rw [wrap_id (by omega) (by omega)]
              refine Again.mk 1 [] ⟨h, ?_⟩ (Nat.sub_lt_sub_left h (Nat.lt_succ_self _)) ?_
              · have e7 : pv xs 1 = some x := hxk
                rw [e7]
                simp [Gm.notLess, pv]
              · simp only [mvcgen_simp, method_specs_simp, seval]
      · simp only [decide_eq_false_iff_not, Bool.not_true, Int.ofNat_lt] at h
        rw [List.drop_eq_nil_of_le (by omega), Gm.rowFrom]
theorem c_l03Depths (evs : List Ev) (hx : EvsOK evs) (hin : ∀ e ∈ evs, Gm.allIn evs e = true) : Con P 191 [.sl 9 (evs.map encEv)] (.sl 1 ((Gm.depthsE evs).map encI)) := by
  have hx1 := hx.1
  refine Con.of (n := 69) (rs := [.tmp 2]) (Is.fn Try.func191) rfl (Is.call Try.call191) Try.results191 Try.ntmps191 (by simp only [method_specs_simp]) ?_
  simp (maxSteps := 4000000) only [method_specs_simp, seval]
  refine ⟨by omega, by omega, by omega, ?_⟩
  have ez : List.replicate evs.length [V.int IntKind.i64 0] = (List.replicate evs.length (0 : Int)).map encI := by simp [encI]
  rw [ez]
  refine SW.while (A := Nat) (fun k => ⟨pad 69 [.sl 9 (evs.map encEv), .junk, .nil, .ar 0 0 evs.length, .int .i64 k], [.arr true 1 ((Gm.iterD evs k (List.replicate evs.length 0)).map encI)], []⟩)
    (fun k => evs.length - k) (fun k => k ≤ evs.length ∧ DepI evs (Gm.iterD evs k (List.replicate evs.length 0))) 0 [0] ⟨Nat.zero_le _, ⟨Gm.OkD.zero _, Gm.BdD.zero _⟩⟩ ?_ ?_
  · rw [show Gm.iterD evs 0 (List.replicate evs.length 0) = List.replicate evs.length 0 from rfl]
    simp only [mvcgen_simp, method_specs_simp, seval]
  · rintro k0 ⟨hk0, hd⟩
    refine CW.sound ?_
    have hsuc := Gm.iter_succ evs k0 (List.replicate evs.length 0)
    generalize hDD : Gm.iterD evs k0 (List.replicate evs.length 0) = d at hd hsuc
    have hlen := hd.ok.len
    have hk01 : IntKind.i64.wrap ((k0 : Int) + 1) = ((k0 + 1 : Nat) : Int) := by rw [wrap_id (by omega) (by omega)]; rfl
    simp (maxSteps := 4000000) only [method_specs_simp, seval]
    refine gB_split (fun h0 => ?_) (fun h0 => ?_)
    · simp only [decide_eq_true_eq, Int.ofNat_lt] at h0
      refine SW.while (A := Nat) (fun k => ⟨pad 69 [.sl 9 (evs.map encEv), .junk, .nil, .ar 0 0 evs.length, .int .i64 k0, .int .i64 k], [.arr true 1 ((Gm.passK evs d k).map encI)], []⟩)
        (fun k => evs.length - k) (fun k => k ≤ evs.length) 0 [0] (Nat.zero_le _) ?_ ?_
      · rw [Gm.passK_zero]
        simp only [mvcgen_simp, method_specs_simp, seval]
      · intro k hk
        have hdk : DepI evs (Gm.passK evs d k) := ⟨Gm.passK_ok hd.ok k, Gm.passK_bd hd.ok hd.bd k⟩
        have hsucc := Gm.passK_succ evs d k
        generalize hD : Gm.passK evs d k = D at hdk hsucc
        have hDl := hdk.ok.len
        have hk1 : IntKind.i64.wrap ((k : Int) + 1) = ((k + 1 : Nat) : Int) := by rw [wrap_id (by omega) (by omega)]; rfl
        refine CW.sound ?_
        simp (maxSteps := 4000000) only [method_specs_simp, seval]
        refine gB_split (fun h => ?_) (fun h => ?_)
        · simp only [decide_eq_true_eq, Int.ofNat_lt] at h
          have hxk : evs[k]? = some evs[k] := List.getElem?_eq_getElem h
          have hOK := hx.2 _ (List.getElem_mem h)
          have hIn := hin _ (List.getElem_mem h)
          generalize evs[k] = e at hxk hOK hIn
          obtain ⟨x, hDk⟩ : ∃ x, D[k]? = some x := ⟨_, List.getElem?_eq_getElem (by omega)⟩
          have hDg : D.getD k 0 = x := by rw [List.getD_eq_getElem?_getD, hDk]; rfl
          simp (maxSteps := 4000000) only [List.getElem?_map, hxk, hDk, encEv, encI, method_specs_simp, seval, hk1]
          refine ⟨by omega, by omega, ?_⟩
          have hx0 : 0 ≤ x := hdk.ok.nn x (List.mem_of_getElem? hDk)
          refine gB_split (fun h1 => ?_) (fun h1 => ?_)
          · simp only [decide_eq_true_eq] at h1
            have hst : Gm.stepD evs D k = D := by unfold Gm.stepD; rw [hDg, if_pos h1]
            refine Again.mk (k + 1) [0] h (Nat.sub_lt_sub_left h (Nat.lt_succ_self _)) ?_
            rw [hsucc, hst]
            simp only [mvcgen_simp, method_specs_simp, seval]
          · simp only [decide_eq_false_iff_not, Bool.not_true] at h1
            have hxz : x = 0 := by omega
            subst hxz
            refine SW.while (A := Nat × Int × Bool) (fun a => ⟨pad 69 [.sl 9 (evs.map encEv), .junk, .nil, .ar 0 0 evs.length, .int .i64 k0, .int .i64 k, .int .i64 a.2.1, .bool a.2.2, .int .i64 a.1], [.arr true 1 (D.map encI)], []⟩)
              (fun a => e.prev.length - a.1) (fun a => a.1 ≤ e.prev.length ∧ 0 ≤ a.2.1 ∧ a.2.1 ≤ evs.length ∧ Gm.ownD evs D e = if (a.2.2 && (e.prev.drop a.1).all (fun p => decide (Gm.dAt evs D p > 0))) = true then ((e.prev.drop a.1).map (Gm.dAt evs D)).foldl (fun a b => if b > a then b else a) a.2.1 + 1 else 0) (0, 0, true) [0]
              ⟨Nat.zero_le _, Int.le_refl _, by simp only; omega, by simp only [Gm.ownD, List.drop_zero, Bool.true_and]⟩ ?_ ?_
            · simp only [mvcgen_simp, method_specs_simp, seval]
            · rintro ⟨j, most, ok⟩ ⟨hj, ho1, ho2, hown⟩
              simp only at hj ho1 ho2 hown
              have hel := hOK.2
              refine CW.sound ?_
              simp (maxSteps := 4000000) only [List.getElem?_map, hxk, encEv, method_specs_simp, seval]
              refine ⟨by omega, by omega, ?_⟩
              refine gB_split (fun h3 => ?_) (fun h3 => ?_)
              · simp only [decide_eq_true_eq, Int.ofNat_lt] at h3
                have hpj : e.prev[j]? = some e.prev[j] := List.getElem?_eq_getElem h3
                have hpin : Gm.hasId evs e.prev[j] = true := List.all_eq_true.1 hIn _ (List.getElem_mem h3)
                generalize e.prev[j] = q at hpj hpin
                have hDq := dAt_fid hdk.ok hpin
                obtain ⟨hq0, hq1⟩ := hdk.le q
                have hpos := Gm.fid_lt hpin
                have hj1 : IntKind.i64.wrap ((j : Int) + 1) = ((j + 1 : Nat) : Int) := by rw [wrap_id (by omega) (by omega)]; rfl
                rw [drop_cons hpj] at hown
                simp (maxSteps := 4000000) only [List.getElem?_map, hxk, hpj, encEv, encI, method_specs_simp, seval]
                refine ⟨by omega, by omega, by omega, by omega, ?_⟩
                have hat := atI_yes hpin
                refine clY.con (c_l03At evs q (by omega)) (by simp only [method_specs_simp]) ?_
                simp (maxSteps := 4000000) only [hat, List.getElem?_map, hxk, hDq, encEv, encI, method_specs_simp, seval, hj1]
                refine ⟨by omega, by omega, ?_⟩
                have key : ∀ (ok' : Bool), ok' = (ok && decide (Gm.dAt evs D q > 0)) → Gm.ownD evs D e = if (ok' && (e.prev.drop (j + 1)).all (fun p => decide (Gm.dAt evs D p > 0))) = true then ((e.prev.drop (j + 1)).map (Gm.dAt evs D)).foldl (fun a b => if b > a then b else a) (if Gm.dAt evs D q > most then Gm.dAt evs D q else most) + 1 else 0 := by
                  rintro ok' rfl
                  rw [hown]
                  simp only [List.all_cons, List.map_cons, List.foldl_cons, Bool.and_assoc]
                refine gB_split (fun h4 => ?_) (fun h4 => ?_)
                · refine gB_split (fun h5 => ?_) (fun h5 => ?_)
                  · simp only [decide_eq_true_eq] at h5
                    refine Again.mk (j + 1, Gm.dAt evs D q, decide (Gm.dAt evs D q > 0)) [0] ⟨h3, by simp only; omega, by simp only; omega, ?_⟩ (Nat.sub_lt_sub_left h3 (Nat.lt_succ_self _)) ?_
                    · have := key (decide (Gm.dAt evs D q > 0)) (by rw [h4, Bool.true_and])
                      rw [if_pos h5] at this
                      exact this
                    · simp only [mvcgen_simp, method_specs_simp, seval]
                  · simp only [decide_eq_false_iff_not, Bool.not_true] at h5
                    refine Again.mk (j + 1, most, decide (Gm.dAt evs D q > 0)) [0] ⟨h3, by simp only; omega, by simp only; omega, ?_⟩ (Nat.sub_lt_sub_left h3 (Nat.lt_succ_self _)) ?_
                    · have := key (decide (Gm.dAt evs D q > 0)) (by rw [h4, Bool.true_and])
                      rw [if_neg h5] at this
                      exact this
                    · simp only [mvcgen_simp, method_specs_simp, seval]
                · simp only [Bool.not_true] at h4
                  refine gB_split (fun h5 => ?_) (fun h5 => ?_)
                  · simp only [decide_eq_true_eq] at h5
                    refine Again.mk (j + 1, Gm.dAt evs D q, false) [0] ⟨h3, by simp only; omega, by simp only; omega, ?_⟩ (Nat.sub_lt_sub_left h3 (Nat.lt_succ_self _)) ?_
                    · have := key false (by rw [h4, Bool.false_and])
                      rw [if_pos h5] at this
                      exact this
                    · simp only [mvcgen_simp, method_specs_simp, seval]
                  · simp only [decide_eq_false_iff_not, Bool.not_true] at h5
                    refine Again.mk (j + 1, most, false) [0] ⟨h3, by simp only; omega, by simp only; omega, ?_⟩ (Nat.sub_lt_sub_left h3 (Nat.lt_succ_self _)) ?_
                    · have := key false (by rw [h4, Bool.false_and])
                      rw [if_neg h5] at this
                      exact this
                    · simp only [mvcgen_simp, method_specs_simp, seval]
              · simp only [decide_eq_false_iff_not, Bool.not_true, Int.ofNat_lt] at h3
                rw [List.drop_eq_nil_of_le (by omega)] at hown
                simp only [List.all_nil, List.map_nil, List.foldl_nil, Bool.and_true] at hown
                refine gB_split (fun h4 => ?_) (fun h4 => ?_)
                · rw [h4, if_pos rfl] at hown
                  have w1 : IntKind.i64.wrap (most + 1) = most + 1 := wrap_id (by omega) (by omega)
                  have hst : Gm.stepD evs D k = D.set k (most + 1) := by unfold Gm.stepD; rw [hDg, if_neg (by decide), hxk]; simp only; rw [hown, if_pos (by omega)]
                  have eg : (D.map encI).getD k [] = encI 0 := by rw [List.getD_eq_getElem?_getD, map_getE _ hDk]; rfl
                  have es : (D.map encI).set k (V.int IntKind.i64 (most + 1) :: List.drop 1 ((D.map encI).getD k [])) = (D.set k (most + 1)).map encI := by rw [eg, List.map_set]; rfl
                  rw [w1]
                  refine ⟨by omega, by omega, by omega, ?_⟩
                  rw [es]
                  refine Again.mk (k + 1) [0] h (Nat.sub_lt_sub_left h (Nat.lt_succ_self _)) ?_
                  rw [hsucc, hst]
                  simp only [mvcgen_simp, method_specs_simp, seval, hk1]
                · simp only [Bool.not_true] at h4
                  rw [h4, if_neg (by decide)] at hown
                  have hst : Gm.stepD evs D k = D := by unfold Gm.stepD; rw [hDg, if_neg (by decide), hxk]; simp only; rw [hown, if_neg (by decide)]
                  refine Again.mk (k + 1) [0] h (Nat.sub_lt_sub_left h (Nat.lt_succ_self _)) ?_
                  rw [hsucc, hst]
                  simp only [mvcgen_simp, method_specs_simp, seval, hk1]
        · simp only [decide_eq_false_iff_not, Bool.not_true, Int.ofNat_lt] at h
          have hkn : k = evs.length := by omega
          subst hkn
          have hpD : Gm.passD evs d = D := hD
          rw [hk01]
          refine Again.mk (k0 + 1) [0] ⟨h0, ?_⟩ (Nat.sub_lt_sub_left h0 (Nat.lt_succ_self _)) ?_
          · rw [hsuc, hpD]; exact hdk
          · rw [hsuc, hpD]
            simp only [mvcgen_simp, method_specs_simp, seval]
    · simp only [decide_eq_false_iff_not, Bool.not_true, Int.ofNat_lt] at h0
      have hkn : k0 = evs.length := by omega
      subst hkn
      have ht : List.take evs.length (List.map encI d) = List.map encI d := List.take_of_length_le (by simp [hlen])
      rw [ht, ← hDD]
      exact ⟨of_eq_true (encI_refs _ _), rfl⟩
theorem c_sGraphRight (g : Gr) (hg : GrOK g) : Con P 131 [.agg (encGr g)] (.bool (Gm.grRight g)) := by
  have hg1 := hg.1.1
  have hg2 := hg.2.1
  refine Con.of (n := 84) (rs := [.tmp 2]) (Is.fn Try.func131) rfl (Is.call Try.call131) Try.results131 Try.ntmps131 trivial ?_
  simp (maxSteps := 4000000) only [method_specs_simp, seval, encGr]
  refine clY.con (c_l02Is g.room 1 3) (by simp only [method_specs_simp, encGr]) ?_
  simp (maxSteps := 4000000) only [method_specs_simp, seval, encGr]
  cases g1 : Gm.isB g.room 1 3
  · simp (maxSteps := 4000000) only [method_specs_simp, seval, encGr]
    simp [Gm.grRight, g1]
  simp (maxSteps := 4000000) only [method_specs_simp, seval, encGr]
  refine clY.con (c_l03Row g.events g.room 60 hg.1) (by simp only [method_specs_simp, encGr]) ?_
  simp (maxSteps := 4000000) only [method_specs_simp, seval, encGr]
  cases g2 : Gm.rowR g.events g.room 60
  · simp (maxSteps := 4000000) only [method_specs_simp, seval, encGr]
    simp [Gm.grRight, g2]
  simp (maxSteps := 4000000) only [method_specs_simp, seval, encGr]
  refine clY.con (c_l03Row g.parked g.room 20 hg.2) (by simp only [method_specs_simp, encGr]) ?_
  simp (maxSteps := 4000000) only [method_specs_simp, seval, encGr]
  cases g3 : Gm.rowR g.parked g.room 20
  · simp (maxSteps := 4000000) only [method_specs_simp, seval, encGr]
    simp [Gm.grRight, g3]
  simp (maxSteps := 4000000) only [method_specs_simp, seval, encGr]
  simp only [Gm.grRight, g1, g2, g3, Bool.true_and]
  refine SW.while (A := Nat) (fun k => ⟨pad 84 [.junk, .ptr 0 0, .bool false, .int .i64 k], [.box true (encGr g)], []⟩) (fun k => g.events.length - k)
    (fun k => k ≤ g.events.length ∧ (g.events.all fun e => Gm.allIn g.events e && !Gm.hasId g.parked e.id) = ((g.events.drop k).all fun e => Gm.allIn g.events e && !Gm.hasId g.parked e.id) ∧ ∀ i e, i < k → g.events[i]? = some e → Gm.allIn g.events e = true) 0 [0] ⟨Nat.zero_le _, rfl, fun i e h => absurd h (Nat.not_lt_zero _)⟩ ?_ ?_
  · simp only [mvcgen_simp, method_specs_simp, seval, encGr]
  · rintro k ⟨hk, hr, hall⟩
    rw [hr]
    refine CW.sound ?_
    simp (maxSteps := 4000000) only [method_specs_simp, seval, encGr]
    refine gB_split (fun h => ?_) (fun h => ?_)
    · simp only [decide_eq_true_eq, Int.ofNat_lt] at h
      have hxk : g.events[k]? = some g.events[k] := List.getElem?_eq_getElem h
      have hOK := hg.1.2 _ (List.getElem_mem h)
      generalize g.events[k] = x at hxk hOK
      rw [drop_cons hxk]
      simp (maxSteps := 4000000) only [List.getElem?_map, hxk, encEv, encGr, method_specs_simp, seval]
      refine ⟨by kernel_rfl, by omega, by omega, ?_⟩
      refine clY.con (c_l03All g.events x hOK (by omega)) (by simp only [method_specs_simp]) ?_
      simp (maxSteps := 4000000) only [List.getElem?_map, hxk, encEv, encGr, method_specs_simp, seval]
      cases g4 : Gm.allIn g.events x
      · simp (maxSteps := 4000000) only [method_specs_simp, seval, encGr]
        simp [g4]
      simp (maxSteps := 4000000) only [List.getElem?_map, hxk, encEv, encGr, method_specs_simp, seval]
      refine ⟨by omega, by omega, ?_⟩
      refine clY.con (c_l03At g.parked x.id (by omega)) (by simp only [method_specs_simp]) ?_
      simp (maxSteps := 4000000) only [encEv, encGr, method_specs_simp, seval]
      rw [atI_ge]
      cases g5 : Gm.hasId g.parked x.id
      · simp (maxSteps := 4000000) only [method_specs_simp, seval, encGr]
        rw [wrap_id (by omega) (by omega)]
        refine Again.mk (k + 1) [0] ⟨h, by simp [g4, g5], ?_⟩ (Nat.sub_lt_sub_left h (Nat.lt_succ_self _)) ?_
        · intro i e hi he
          rcases Nat.lt_or_ge i k with h1 | h1
          · exact hall i e h1 he
          · have : i = k := by omega
            subst this
            rw [hxk] at he; cases he; exact g4
        · simp only [mvcgen_simp, method_specs_simp, seval, encGr]
      · simp (maxSteps := 4000000) only [method_specs_simp, seval, encGr]
        simp [g4, g5]
    · simp only [decide_eq_false_iff_not, Bool.not_true, Int.ofNat_lt] at h
      rw [List.drop_eq_nil_of_le (by omega), List.all_nil, Bool.true_and]
      have hin : ∀ e ∈ g.events, Gm.allIn g.events e = true := fun e he => by
        obtain ⟨i, hi⟩ := List.getElem?_of_mem he
        have := (List.getElem?_eq_some_iff.1 hi).1
        exact hall i e (by omega) hi
      refine SW.while (A := Nat) (fun k => ⟨pad 84 [.junk, .ptr 0 0, .bool false, .junk, .int .i64 k], [.box true (encGr g)], []⟩) (fun k => g.parked.length - k)
        (fun k => k ≤ g.parked.length ∧ (g.parked.all fun e => !Gm.allIn g.events e) = ((g.parked.drop k).all fun e => !Gm.allIn g.events e)) 0 [0] ⟨Nat.zero_le _, rfl⟩ ?_ ?_
      · simp only [mvcgen_simp, method_specs_simp, seval, encGr]
      · rintro k ⟨hk, hr⟩
        rw [hr]
        refine CW.sound ?_
        simp (maxSteps := 4000000) only [method_specs_simp, seval, encGr]
        refine gB_split (fun h => ?_) (fun h => ?_)
        · simp only [decide_eq_true_eq, Int.ofNat_lt] at h
          have hxk : g.parked[k]? = some g.parked[k] := List.getElem?_eq_getElem h
          have hOK := hg.2.2 _ (List.getElem_mem h)
          generalize g.parked[k] = x at hxk hOK
          rw [drop_cons hxk]
          simp (maxSteps := 4000000) only [List.getElem?_map, hxk, encEv, encGr, method_specs_simp, seval]
          refine ⟨by kernel_rfl, by omega, by omega, ?_⟩
          refine clY.con (c_l03All g.events x hOK (by omega)) (by simp only [method_specs_simp]) ?_
          simp (maxSteps := 4000000) only [method_specs_simp, seval, encGr]
          cases g4 : Gm.allIn g.events x
          · simp (maxSteps := 4000000) only [method_specs_simp, seval, encGr]
            rw [wrap_id (by omega) (by omega)]
            refine Again.mk (k + 1) [0] ⟨h, by simp [g4]⟩ (Nat.sub_lt_sub_left h (Nat.lt_succ_self _)) ?_
            simp only [mvcgen_simp, method_specs_simp, seval, encGr]
          · simp (maxSteps := 4000000) only [method_specs_simp, seval, encGr]
            simp [g4]
        · simp only [decide_eq_false_iff_not, Bool.not_true, Int.ofNat_lt] at h
          rw [List.drop_eq_nil_of_le (by omega), List.all_nil, Bool.true_and]
          refine clY.con (c_l03Depths g.events hg.1 hin) (by simp only [method_specs_simp, encGr]) ?_
          simp (maxSteps := 4000000) only [method_specs_simp, seval, encGr]
          have hdl := (Gm.depths_ok g.events).len
          generalize Gm.depthsE g.events = d at hdl
          refine SW.while (A := Nat) (fun k => ⟨pad 84 [.junk, .ptr 0 0, .bool false, .junk, .junk, .sl 1 (d.map encI), .int .i64 k], [.box true (encGr g)], []⟩) (fun k => d.length - k)
            (fun k => k ≤ d.length ∧ Gm.allPos d = Gm.allPos (d.drop k)) 0 [0] ⟨Nat.zero_le _, rfl⟩ ?_ ?_
          · simp only [mvcgen_simp, method_specs_simp, seval, encGr]
          · rintro k ⟨hk, hr⟩
            rw [hr]
            refine CW.sound ?_
            simp (maxSteps := 4000000) only [method_specs_simp, seval, encGr]
            refine gB_split (fun h => ?_) (fun h => ?_)
            · simp only [decide_eq_true_eq, Int.ofNat_lt] at h
              obtain ⟨x, hxk⟩ : ∃ x, d[k]? = some x := ⟨_, List.getElem?_eq_getElem h⟩
              rw [drop_cons hxk]
              simp (maxSteps := 4000000) only [List.getElem?_map, hxk, encI, encGr, method_specs_simp, seval]
              refine ⟨by omega, by omega, ?_⟩
              cases g4 : (x == 0)
              · simp (maxSteps := 4000000) only [method_specs_simp, seval, encGr]
                rw [wrap_id (by omega) (by omega)]
                refine Again.mk (k + 1) [0] ⟨h, by simp [Gm.allPos, g4]⟩ (Nat.sub_lt_sub_left h (Nat.lt_succ_self _)) ?_
                simp only [mvcgen_simp, method_specs_simp, seval, encGr]
              · simp (maxSteps := 4000000) only [method_specs_simp, seval, encGr]
                simp [Gm.allPos, g4]
            · simp only [decide_eq_false_iff_not, Bool.not_true, Int.ofNat_lt] at h
              rw [List.drop_eq_nil_of_le (by omega)]
              rfl
end
end Go.Proofs.Ytkcllejnmpnjfaa
