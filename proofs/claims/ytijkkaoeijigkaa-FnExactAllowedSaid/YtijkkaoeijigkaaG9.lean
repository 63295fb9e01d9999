/- What is allowed, by the reference. Conditions: order, sizes that fit a machine. -/
import Derived.Test.YtijkkaoeijigkaaG8
import Derived.Test.YtijkkaoeijigkaaG6
namespace Go.Proofs.Ytijkkaoeijigkaa
open Go.Pm
open Go.Gm (Ev Gr)
set_option maxRecDepth 10000
set_option linter.unusedSimpArgs false
set_option linter.unusedVariables false
set_option maxHeartbeats 1000000
/-- A state of a graph: every entry's event is there. -/
structure LS (g : Gr) (s : List Ent) : Prop extends GS g s where
  hz : ∀ k q, (idS s k q = 0 ∧ curE g s k q = none) ∨ (0 < idS s k q ∧ Gm.hasId g.events (idS s k q) = true)
theorem LS.dec {g : Gr} {s : List Ent} (h : LS g s) (k q : Int) : decide (idS s k q > 0) = (curE g s k q).isSome := by
  unfold curE
  rw [atE_has]
  rcases h.hz k q with ⟨h1, h2⟩ | ⟨h1, h2⟩
  · unfold curE at h2
    rw [← atE_has, h2, h1]; rfl
  · rw [h2]; simpa using h1
theorem LS.eqz {g : Gr} {s : List Ent} (h : LS g s) (k q : Int) : (idS s k q == 0) = !(curE g s k q).isSome := by
  rw [← h.dec]
  rcases h.hz k q with ⟨h1, _⟩ | ⟨h1, _⟩
  · rw [h1]; rfl
  · have : ¬ (idS s k q = 0) := by omega
    rw [show (idS s k q == 0) = false by simpa using this]
    simp [h1]
section
variable {P : Program} [Is P]
theorem idS_go (s : List Ent) (kind key : Int) (k : Nat) : idS (s.drop k) kind key = match s[k]? with
  | none => 0
  | some x => if ((x.kind == kind) && (x.key == key)) = true then x.id else idS (s.drop (k + 1)) kind key := by
  cases h : s[k]? with
  | none => rw [List.drop_eq_nil_of_le (by simpa using h)]; rfl
  | some x =>
    rw [drop_cons h]
    unfold idS
    rw [List.find?_cons]
    unfold isK
    cases hb : ((x.kind == kind) && (x.key == key)) <;> simp [hb]
theorem c_l04At (s : List Ent) (kind key : Int) (hx : s.length < 2 ^ 62) : Con P 150 [.sl 3 (s.map encEnt), .int .i64 kind, .int .i64 key] (.int .i64 (idS s kind key)) := by
  refine Con.of (n := 35) (rs := [.tmp 6]) (Is.fn Try.func150) rfl (Is.call Try.call150) Try.results150 Try.ntmps150 trivial ?_
  simp (maxSteps := 4000000) only [method_specs_simp, seval]
  refine SW.while (A := Nat) (fun k => ⟨pad 35 [.sl 3 (s.map encEnt), .int .i64 kind, .int .i64 key, .junk, .junk, .junk, .int .i64 0, .int .i64 k], [], []⟩) (fun k => s.length - k)
    (fun k => k ≤ s.length ∧ idS s kind key = idS (s.drop k) kind key) 0 [] ⟨Nat.zero_le _, rfl⟩ ?_ ?_
  · simp only [mvcgen_simp, method_specs_simp, seval]
  · rintro k ⟨hk, hr⟩
    rw [hr, idS_go]
    refine CW.sound ?_
    simp (maxSteps := 4000000) only [method_specs_simp, seval]
    refine gB_split (fun h => ?_) (fun h => ?_)
    · simp only [decide_eq_true_eq, Int.ofNat_lt] at h
      obtain ⟨x, hxk⟩ : ∃ x, s[k]? = some x := ⟨_, List.getElem?_eq_getElem h⟩
      simp (maxSteps := 4000000) only [List.getElem?_map, hxk, encEnt, method_specs_simp, seval]
      refine ⟨by omega, by omega, ?_⟩
      cases k1 : (x.kind == kind)
      · simp (maxSteps := 4000000) only [method_specs_simp, seval]
        rw [wrap_id (by omega) (by omega)]
        refine Again.mk (k + 1) [] ⟨h, ?_⟩ (Nat.sub_lt_sub_left h (Nat.lt_succ_self _)) ?_
        · simp [k1]
        · simp only [mvcgen_simp, method_specs_simp, seval]
      · simp (maxSteps := 4000000) only [method_specs_simp, seval]
        refine ⟨by omega, by omega, ?_⟩
        cases k2 : (x.key == key)
        · simp (maxSteps := 4000000) only [method_specs_simp, seval]
          rw [wrap_id (by omega) (by omega)]
          refine Again.mk (k + 1) [] ⟨h, ?_⟩ (Nat.sub_lt_sub_left h (Nat.lt_succ_self _)) ?_
          · simp [k1, k2]
          · simp only [mvcgen_simp, method_specs_simp, seval]
        · simp (maxSteps := 4000000) only [method_specs_simp, seval]
          simp
          omega
    · simp only [decide_eq_false_iff_not, Bool.not_true, Int.ofNat_lt] at h
      rw [List.getElem?_eq_none (by omega)]
theorem entOf_no {g : Gr} {x : Ent} (h : Gm.hasId g.events x.id = false) : entOf g x = false := by
  unfold entOf; rw [atE_has, h]; rfl
theorem entOf_at {g : Gr} {x : Ent} {e : Ev} (h : Gm.hasId g.events x.id = true) (he : g.events[Gm.fidE g.events x.id]? = some e) : entOf g x = ((e.kind == x.kind) && (e.key == x.key)) := by
  unfold entOf; rw [atE_has, h, ← fid_at h, he]; rfl
theorem c_l05State (g : Gr) (s : List Ent) (hg : GrOK g) (hx : s.length * 24 ≤ 2 ^ 47) : Con P 110 [.agg (encGr g), .sl 3 (s.map encEnt)] (.bool (stateE g s)) := by
  have hg1 := hg.1.1
  refine Con.of (n := 54) (rs := [.tmp 4]) (Is.fn Try.func110) rfl (Is.call Try.call110) Try.results110 Try.ntmps110 trivial ?_
  simp (maxSteps := 4000000) only [method_specs_simp, seval, encGr, bne_not]
  refine clY.con (c115 s (by omega)) (by simp only [method_specs_simp, encGr, bne_not]) ?_
  simp (maxSteps := 4000000) only [method_specs_simp, seval, encGr, bne_not]
  unfold stateE stateOk
  rw [okRow_f, Bool.and_comm (okRow (entI 1) s)]
  cases k0 : (decide (s.length ≤ 400) && okRow (entI 1) s)
  · simp (maxSteps := 4000000) only [method_specs_simp, seval, encGr, bne_not]
    try simp
  · simp (maxSteps := 4000000) only [method_specs_simp, seval, encGr, bne_not]
    refine SW.while (A := Nat) (fun k => ⟨pad 54 [.junk, .sl 3 (s.map encEnt), .ptr 0 0, .junk, .bool false, .int .i64 k], [.box true (encGr g)], []⟩) (fun k => s.length - k)
      (fun k => k ≤ s.length ∧ s.all (entOf g) = (s.drop k).all (entOf g)) 0 [0] ⟨Nat.zero_le _, rfl⟩ ?_ ?_
    · simp only [mvcgen_simp, method_specs_simp, seval, encGr, bne_not]
    · rintro k ⟨hk, hr⟩
      rw [hr]
      refine CW.sound ?_
      simp (maxSteps := 4000000) only [method_specs_simp, seval, encGr, bne_not]
      refine gB_split (fun h => ?_) (fun h => ?_)
      · simp only [decide_eq_true_eq, Int.ofNat_lt] at h
        obtain ⟨x, hxk⟩ : ∃ x, s[k]? = some x := ⟨_, List.getElem?_eq_getElem h⟩
        simp (maxSteps := 4000000) only [List.getElem?_map, hxk, encEnt, method_specs_simp, seval]
        refine ⟨by kernel_rfl, by omega, by omega, ?_⟩
        refine clY.con (c_l03At g.events x.id (by omega)) (by simp only [method_specs_simp, encGr, bne_not]) ?_
        simp (maxSteps := 4000000) only [method_specs_simp, seval, encGr, bne_not, atI_lt]
        rw [drop_cons hxk, List.all_cons]
        cases k1 : Gm.hasId g.events x.id
        · rw [entOf_no k1]
          simp (maxSteps := 4000000) only [method_specs_simp, seval, encGr, bne_not, k1]
          exact ⟨by kernel_rfl, rfl⟩
        · have h3 := Gm.fid_lt k1
          obtain ⟨e, h4, _⟩ := Gm.fid_get k1
          rw [entOf_at k1 h4, atI_yes k1]
          simp (maxSteps := 4000000) only [k1, h4, hxk, encEv, encEnt, Option.getD_some, method_specs_simp, seval]
          refine ⟨by kernel_rfl, by omega, by omega, by omega, by omega, ?_⟩
          cases k2 : (e.kind == x.kind)
          · simp (maxSteps := 4000000) only [method_specs_simp, seval, encGr, bne_not, k2]
            try simp
          · simp (maxSteps := 4000000) only [method_specs_simp, seval, encGr, bne_not, k2]
            refine ⟨by omega, by omega, by omega, by omega, ?_⟩
            cases k3 : (e.key == x.key)
            · simp (maxSteps := 4000000) only [method_specs_simp, seval, encGr, bne_not, k3]
              try simp
            · simp (maxSteps := 4000000) only [method_specs_simp, seval, encGr, bne_not, k3]
              rw [wrap_id (by omega) (by omega)]
              refine Again.mk (k + 1) [0] ⟨h, ?_⟩ (Nat.sub_lt_sub_left h (Nat.lt_succ_self _)) ?_
              · simp [k2, k3]
              · simp only [mvcgen_simp, method_specs_simp, seval, encGr, bne_not]
      · simp only [decide_eq_false_iff_not, Bool.not_true, Int.ofNat_lt] at h
        rw [List.drop_eq_nil_of_le (by omega)]
        try simp
theorem c_l05Of (g : Gr) (s : List Ent) (kind key : Int) (h : LS g s) : Con P 261 [.agg (encGr g), .sl 3 (s.map encEnt), .int .i64 kind, .int .i64 key] (.agg (encEv ((curE g s kind key).getD zE))) := by
  have h1 := h.hx
  have h2 := h.sx
  have h3 := h.eqz kind key
  cases k1 : (curE g s kind key).isSome with
  | false =>
    have h4 : (curE g s kind key) = none := by simpa using k1
    rw [k1] at h3
    rw [h4]
    refine Con.res (r := .agg zEv) ?_ (.agg zEv_le) (encEv_ref1 _ _)
    refine Con.of (n := 25) (rs := [.cell 8 28]) (Is.fn Try.func261) rfl (Is.call Try.call261) Try.results261 Try.ntmps261 (by simp only [zEv, method_specs_simp]) ?_
    simp (maxSteps := 4000000) only [method_specs_simp, seval, encGr]
    refine clY.con (c_l04At s kind key (by omega)) (by simp only [method_specs_simp, encGr]) ?_
    simp (maxSteps := 4000000) only [method_specs_simp, seval, encGr, h3, Bool.not_false]
    rfl
  | true =>
    rw [k1] at h3
    have k2 : Gm.hasId g.events (idS s kind key) = true := by rw [← atE_has]; exact k1
    obtain ⟨e, h4, _⟩ := Gm.fid_get k2
    have h5 := Gm.fid_lt k2
    have h6 := fid_at k2
    rw [h4] at h6
    have h7 : curE g s kind key = some e := h6.symm
    rw [h7]
    refine Con.of (n := 25) (rs := [.cell 8 28]) (Is.fn Try.func261) rfl (Is.call Try.call261) Try.results261 Try.ntmps261 (by simp only [method_specs_simp]) ?_
    simp (maxSteps := 4000000) only [method_specs_simp, seval, encGr]
    refine clY.con (c_l04At s kind key (by omega)) (by simp only [method_specs_simp, encGr]) ?_
    simp (maxSteps := 4000000) only [method_specs_simp, seval, encGr, h3, Bool.not_true]
    refine ⟨by kernel_rfl, ?_⟩
    refine clY.con (c_l03At g.events (idS s kind key) (by omega)) (by simp only [method_specs_simp, encGr]) ?_
    simp (maxSteps := 4000000) only [method_specs_simp, seval, encGr, atI_yes k2]
    refine ⟨by omega, by omega, ?_⟩
    simp (maxSteps := 4000000) only [h4, encEv, Option.getD_some, method_specs_simp, seval]
theorem c_l05Member (g : Gr) (s : List Ent) (u : Int) (h : LS g s) : Con P 207 [.agg (encGr g), .sl 3 (s.map encEnt), .int .i64 u] (.int .i64 (memberE g s u)) := by
  have h1 : List.take 3 (encGr g) = encGr g := rfl
  refine Con.of (n := 12) (rs := [.tmp 6]) (Is.fn Try.func207) rfl (Is.call Try.call207) Try.results207 Try.ntmps207 trivial ?_
  simp (maxSteps := 4000000) only [method_specs_simp, seval]
  refine ⟨by simp [encGr], ?_⟩
  rw [h1]
  refine clY.con (c_l05Of g s 2 u h) (by simp only [method_specs_simp]) ?_
  simp (maxSteps := 4000000) only [method_specs_simp, seval, encEv]
  rfl
theorem c_l05Level (g : Gr) (s : List Ent) (u : Int) (h : LS g s) (ho : (curE g s 1 0).isSome = true) : Con P 208 [.agg (encGr g), .sl 3 (s.map encEnt), .int .i64 u] (.int .i64 (levelE g s u)) := by
  have h1 : List.take 3 (encGr g) = encGr g := rfl
  have h2 := h.sx
  refine Con.of (n := 22) (rs := [.tmp 6]) (Is.fn Try.func208) rfl (Is.call Try.call208) Try.results208 Try.ntmps208 trivial ?_
  simp (maxSteps := 4000000) only [method_specs_simp, seval]
  refine clY.con (c_l04At s 3 u (by omega)) (by simp only [method_specs_simp]) ?_
  simp (maxSteps := 4000000) only [method_specs_simp, seval, h.dec 3 u]
  unfold levelE
  cases g1 : (curE g s 3 u).isSome
  · simp (maxSteps := 4000000) only [method_specs_simp, seval]
    refine ⟨by simp [encGr], ?_⟩
    rw [h1]
    refine clY.con (c_l05Of g s 1 0 h) (by simp only [method_specs_simp]) ?_
    simp (maxSteps := 4000000) only [method_specs_simp, seval, encEv]
    rw [ho, Bool.true_and]
    cases g2 : (((curE g s 1 0).getD zE).author == u)
    · simp (maxSteps := 4000000) only [method_specs_simp, seval, g2]
      try simp
    · simp (maxSteps := 4000000) only [method_specs_simp, seval, g2]
      try simp
  · simp (maxSteps := 4000000) only [method_specs_simp, seval]
    refine ⟨by simp [encGr], ?_⟩
    rw [h1]
    refine clY.con (c_l05Of g s 3 u h) (by simp only [method_specs_simp]) ?_
    simp (maxSteps := 4000000) only [method_specs_simp, seval, encEv]
    try simp
theorem c_l05If (b : Bool) : Con P 211 [.bool b] (.int .i64 (den b)) := by
  refine Con.of (n := 4) (rs := [.tmp 2]) (Is.fn Try.func211) rfl (Is.call Try.call211) Try.results211 Try.ntmps211 trivial ?_
  simp (maxSteps := 4000000) only [method_specs_simp, seval]
  cases b
  · simp (maxSteps := 4000000) only [method_specs_simp, seval]
    rfl
  · simp (maxSteps := 4000000) only [method_specs_simp, seval]
    rfl
theorem c_l05Own (g : Gr) (s : List Ent) (e : Ev) (m : Int) (h : LS g s) : Con P 209 [.agg (encGr g), .sl 3 (s.map encEnt), .agg (encEv e), .int .i64 m] (.int .i64 (selfE g s e m)) := by
  have h1 : List.take 3 (encGr g) = encGr g := rfl
  have h2 : 3 ≤ (encGr g).length := Nat.le_refl 3
  unfold selfE
  refine Con.of (n := 51) (rs := [.tmp 8]) (Is.fn Try.func209) rfl (Is.call Try.call209) Try.results209 Try.ntmps209 trivial ?_
  simp (maxSteps := 4000000) only [method_specs_simp, seval, encEv, bne_not]
  cases k1 : (m == 1) <;> cases k2 : (m == 4)
  all_goals
    simp (maxSteps := 4000000) only [method_specs_simp, seval, encEv, bne_not, k1, k2]
    cases n1 : (e.n == 1)
    · simp (maxSteps := 4000000) only [method_specs_simp, seval, encEv, bne_not]
      cases n2 : (e.n == 2)
      · simp (maxSteps := 4000000) only [method_specs_simp, seval, encEv, bne_not]
        try simp
      · simp (maxSteps := 4000000) only [method_specs_simp, seval, encEv, bne_not]
        refine clY.con (c_l05If _) (by simp only [method_specs_simp, encEv, bne_not]) ?_
        simp (maxSteps := 4000000) only [method_specs_simp, seval, encEv, bne_not]
        try simp
    · simp (maxSteps := 4000000) only [method_specs_simp, seval, encEv, bne_not]
      refine ⟨by kernel_rfl, h2, ?_⟩
      rw [h1]
      refine clY.con (c_l05Of g s 5 0 h) (by simp only [method_specs_simp, encEv, bne_not]) ?_
      simp (maxSteps := 4000000) only [method_specs_simp, seval, encEv, bne_not]
      cases k4 : (((curE g s 5 0).getD zE).n == 1)
      · simp (maxSteps := 4000000) only [method_specs_simp, seval, encEv, bne_not, k4]
        refine ⟨h2, ?_⟩
        rw [h1]
        refine clY.con (c_l05Of g s 1 0 h) (by simp only [method_specs_simp, encEv, bne_not]) ?_
        simp (maxSteps := 4000000) only [method_specs_simp, seval, encEv, bne_not]
        cases k3 : (m == 3) <;> cases k5 : (((curE g s 1 0).getD zE).author == e.author)
        all_goals
          try simp (maxSteps := 4000000) only [k3, k5, method_specs_simp, seval]
          refine clY.con (c_l05If _) (by simp only [method_specs_simp]) ?_
          simp (maxSteps := 4000000) only [method_specs_simp, seval, encEv, bne_not]
          try simp
      · simp (maxSteps := 4000000) only [method_specs_simp, seval, encEv, bne_not, k4]
        cases k3 : (m == 3)
        all_goals
          try simp (maxSteps := 4000000) only [k3, method_specs_simp, seval]
          refine clY.con (c_l05If _) (by simp only [method_specs_simp]) ?_
          simp (maxSteps := 4000000) only [method_specs_simp, seval, encEv, bne_not]
          try simp
theorem c_l05Other (g : Gr) (s : List Ent) (e : Ev) (p : Int) (h : LS g s) (ho : (curE g s 1 0).isSome = true) : Con P 210 [.agg (encGr g), .sl 3 (s.map encEnt), .agg (encEv e), .int .i64 p] (.int .i64 (otherE g s e p)) := by
  have h1 : List.take 3 (encGr g) = encGr g := rfl
  have h2 : 3 ≤ (encGr g).length := Nat.le_refl 3
  unfold otherE
  refine Con.of (n := 64) (rs := [.tmp 8]) (Is.fn Try.func210) rfl (Is.call Try.call210) Try.results210 Try.ntmps210 trivial ?_
  simp (maxSteps := 4000000) only [method_specs_simp, seval, encEv, bne_not]
  refine ⟨by kernel_rfl, h2, ?_⟩
  rw [h1]
  refine clY.con (c_l05Member g s e.key h) (by simp only [method_specs_simp, encEv, bne_not]) ?_
  simp (maxSteps := 4000000) only [method_specs_simp, seval, encEv, bne_not]
  refine ⟨h2, ?_⟩
  rw [h1]
  refine clY.con (c_l05Level g s e.key h ho) (by simp only [method_specs_simp, encEv, bne_not]) ?_
  simp (maxSteps := 4000000) only [method_specs_simp, seval, encEv, bne_not]
  unfold weakE
  cases k1 : decide (p < 50) <;> cases k2 : decide (p ≤ levelE g s e.key) <;> cases k3 : (memberE g s e.key == 0) <;> cases k4 : (memberE g s e.key == 1) <;> cases k5 : (memberE g s e.key == 2) <;> cases k6 : (memberE g s e.key == 3)
  all_goals
    simp (maxSteps := 4000000) only [method_specs_simp, seval, encEv, bne_not, k1, k2, k3, k4, k5, k6]
    cases n1 : (e.n == 4)
    · simp (maxSteps := 4000000) only [method_specs_simp, seval, encEv, bne_not]
      cases n2 : (e.n == 2)
      · simp (maxSteps := 4000000) only [method_specs_simp, seval, encEv, bne_not]
        cases n3 : (e.n == 3)
        · simp (maxSteps := 4000000) only [method_specs_simp, seval, encEv, bne_not]
          try simp
        · simp (maxSteps := 4000000) only [method_specs_simp, seval, encEv, bne_not, k1, k2, k3, k4, k5, k6]
          refine clY.con (c_l05If _) (by simp only [method_specs_simp, encEv, bne_not]) ?_
          simp (maxSteps := 4000000) only [method_specs_simp, seval, encEv, bne_not]
          try simp
      · simp (maxSteps := 4000000) only [method_specs_simp, seval, encEv, bne_not, k1, k2, k3, k4, k5, k6]
        refine clY.con (c_l05If _) (by simp only [method_specs_simp, encEv, bne_not]) ?_
        simp (maxSteps := 4000000) only [method_specs_simp, seval, encEv, bne_not]
        try simp
    · simp (maxSteps := 4000000) only [method_specs_simp, seval, encEv, bne_not, k1, k2, k3, k4, k5, k6]
      refine clY.con (c_l05If _) (by simp only [method_specs_simp, encEv, bne_not]) ?_
      simp (maxSteps := 4000000) only [method_specs_simp, seval, encEv, bne_not]
      try simp
theorem c_l05Allowed (g : Gr) (s : List Ent) (e : Ev) (h : LS g s) : Con P 112 [.agg (encGr g), .sl 3 (s.map encEnt), .agg (encEv e)] (.int .i64 (allowedE g s e)) := by
  have h1 : List.take 3 (encGr g) = encGr g := rfl
  have h2 : 3 ≤ (encGr g).length := Nat.le_refl 3
  have h3 := h.sx
  have h4 := h.hx
  unfold allowedE
  refine Con.of (n := 113) (rs := [.tmp 6]) (Is.fn Try.func112) rfl (Is.call Try.call112) Try.results112 Try.ntmps112 trivial ?_
  simp (maxSteps := 4000000) only [method_specs_simp, seval, encEv, bne_not]
  refine clY.con (c_l04At s 1 0 (by omega)) (by simp only [method_specs_simp, encEv, bne_not]) ?_
  simp (maxSteps := 4000000) only [method_specs_simp, seval, encEv, bne_not, h.dec 1 0]
  cases ho : (curE g s 1 0).isSome
  · cases k1 : (e.kind == 1)
    · simp (maxSteps := 4000000) only [method_specs_simp, seval, encEv, bne_not, k1, ho]
      try simp
    · simp (maxSteps := 4000000) only [method_specs_simp, seval, encEv, bne_not, k1, ho]
      try simp
  · cases k1 : (e.kind == 1)
    rotate_left
    · simp (maxSteps := 4000000) only [method_specs_simp, seval, encEv, bne_not, k1, ho]
      try simp
    · simp (maxSteps := 4000000) only [method_specs_simp, seval, encEv, bne_not, k1, ho]
      refine ⟨by kernel_rfl, h2, ?_⟩
      rw [h1]
      refine clY.con (c_l05Member g s e.author h) (by simp only [method_specs_simp, encEv, bne_not]) ?_
      simp (maxSteps := 4000000) only [method_specs_simp, seval, encEv, bne_not]
      refine ⟨h2, ?_⟩
      rw [h1]
      refine clY.con (c_l05Level g s e.author h ho) (by simp only [method_specs_simp, encEv, bne_not]) ?_
      simp (maxSteps := 4000000) only [method_specs_simp, seval, encEv, bne_not]
      cases k3 : (e.kind == 2)
      rotate_left
      · simp (maxSteps := 4000000) only [method_specs_simp, seval, encEv, bne_not, k3]
        cases k4 : (e.key == e.author)
        · simp (maxSteps := 4000000) only [method_specs_simp, seval, encEv, bne_not, k4]
          cases k5 : (memberE g s e.author == 1)
          · simp (maxSteps := 4000000) only [method_specs_simp, seval, encEv, bne_not, k5]
            try simp
          · simp (maxSteps := 4000000) only [method_specs_simp, seval, encEv, bne_not, k5]
            refine ⟨h2, ?_⟩
            rw [h1]
            refine clY.con (c_l05Other g s e _ h ho) (by simp only [method_specs_simp, encEv, bne_not]) ?_
            simp (maxSteps := 4000000) only [method_specs_simp, seval, encEv, bne_not]
            try simp
        · simp (maxSteps := 4000000) only [method_specs_simp, seval, encEv, bne_not, k4]
          refine ⟨h2, ?_⟩
          rw [h1]
          refine clY.con (c_l05Own g s e _ h) (by simp only [method_specs_simp, encEv, bne_not]) ?_
          simp (maxSteps := 4000000) only [method_specs_simp, seval, encEv, bne_not]
          try simp
      · simp (maxSteps := 4000000) only [method_specs_simp, seval, encEv, bne_not, k3]
        cases k5 : (memberE g s e.author == 1)
        · simp (maxSteps := 4000000) only [method_specs_simp, seval, encEv, bne_not, k5]
          try simp
        · simp (maxSteps := 4000000) only [method_specs_simp, seval, encEv, bne_not, k5]
          cases k6 : (e.kind == 3)
          rotate_left
          · simp (maxSteps := 4000000) only [method_specs_simp, seval, encEv, bne_not, k6]
            unfold powerE
            cases k7 : decide (levelE g s e.author < 50)
            rotate_left
            · simp (maxSteps := 4000000) only [method_specs_simp, seval, encEv, bne_not, k7]
              refine clY.con (c_l05If _) (by simp only [method_specs_simp, encEv, bne_not]) ?_
              simp (maxSteps := 4000000) only [method_specs_simp, seval, encEv, bne_not]
              try simp
            · simp (maxSteps := 4000000) only [method_specs_simp, seval, encEv, bne_not, k7]
              cases k8 : decide (e.n > levelE g s e.author)
              rotate_left
              · simp (maxSteps := 4000000) only [method_specs_simp, seval, encEv, bne_not, k8]
                refine clY.con (c_l05If _) (by simp only [method_specs_simp, encEv, bne_not]) ?_
                simp (maxSteps := 4000000) only [method_specs_simp, seval, encEv, bne_not]
                try simp
              · simp (maxSteps := 4000000) only [method_specs_simp, seval, encEv, bne_not, k8]
                cases k9 : (e.key == e.author)
                · simp (maxSteps := 4000000) only [method_specs_simp, seval, encEv, bne_not, k9]
                  refine ⟨h2, ?_⟩
                  rw [h1]
                  refine clY.con (c_l05Level g s e.key h ho) (by simp only [method_specs_simp, encEv, bne_not]) ?_
                  simp (maxSteps := 4000000) only [method_specs_simp, seval, encEv, bne_not]
                  refine clY.con (c_l05If _) (by simp only [method_specs_simp, encEv, bne_not]) ?_
                  simp (maxSteps := 4000000) only [method_specs_simp, seval, encEv, bne_not]
                  try simp
                · simp (maxSteps := 4000000) only [method_specs_simp, seval, encEv, bne_not, k9]
                  refine clY.con (c_l05If _) (by simp only [method_specs_simp, encEv, bne_not]) ?_
                  simp (maxSteps := 4000000) only [method_specs_simp, seval, encEv, bne_not]
                  try simp
          · simp (maxSteps := 4000000) only [method_specs_simp, seval, encEv, bne_not, k6]
            cases k7 : (e.kind == 4)
            · simp (maxSteps := 4000000) only [method_specs_simp, seval, encEv, bne_not, k7]
              cases k8 : (e.kind == 5)
              · simp (maxSteps := 4000000) only [method_specs_simp, seval, encEv, bne_not, k8]
                cases k9 : (e.kind == 6)
                · simp (maxSteps := 4000000) only [method_specs_simp, seval, encEv, bne_not, k9]
                  cases k10 : (e.kind == 8)
                  · simp (maxSteps := 4000000) only [method_specs_simp, seval, encEv, bne_not, k10]
                    try simp
                  · simp (maxSteps := 4000000) only [method_specs_simp, seval, encEv, bne_not, k10, encGr]
                    refine clY.con (c_l03At g.events e.key (by omega)) (by simp only [method_specs_simp, encEv, bne_not]) ?_
                    simp (maxSteps := 4000000) only [method_specs_simp, seval, encEv, bne_not, atI_lt]
                    rw [atE_has]
                    cases k11 : Gm.hasId g.events e.key
                    · simp (maxSteps := 4000000) only [method_specs_simp, seval, encEv, bne_not, k11]
                      try simp
                    · have h5 := Gm.fid_lt k11
                      obtain ⟨x, h6, _⟩ := Gm.fid_get k11
                      rw [← fid_at k11, h6, atI_yes k11]
                      simp (maxSteps := 4000000) only [k11, h6, encEv, Option.getD_some, method_specs_simp, seval]
                      refine ⟨by kernel_rfl, ?_⟩
                      cases k12 : decide (levelE g s e.author < 50)
                      · simp (maxSteps := 4000000) only [method_specs_simp, seval, encEv, bne_not, k12]
                        refine clY.con (c_l05If _) (by simp only [method_specs_simp, encEv, bne_not]) ?_
                        simp (maxSteps := 4000000) only [method_specs_simp, seval, encEv, bne_not]
                        try simp
                      · simp (maxSteps := 4000000) only [method_specs_simp, seval, encEv, bne_not, k12, h6]
                        refine ⟨by omega, by omega, ?_⟩
                        refine clY.con (c_l05If _) (by simp only [method_specs_simp, encEv, bne_not]) ?_
                        simp (maxSteps := 4000000) only [method_specs_simp, seval, encEv, bne_not]
                        try simp
                · simp (maxSteps := 4000000) only [method_specs_simp, seval, encEv, bne_not, k9]
                  refine clY.con (c_l05If _) (by simp only [method_specs_simp, encEv, bne_not]) ?_
                  simp (maxSteps := 4000000) only [method_specs_simp, seval, encEv, bne_not]
                  try simp
              · simp (maxSteps := 4000000) only [method_specs_simp, seval, encEv, bne_not, k8]
                refine clY.con (c_l05If _) (by simp only [method_specs_simp, encEv, bne_not]) ?_
                simp (maxSteps := 4000000) only [method_specs_simp, seval, encEv, bne_not]
                try simp
            · simp (maxSteps := 4000000) only [method_specs_simp, seval, encEv, bne_not, k7]
              refine clY.con (c_l05If _) (by simp only [method_specs_simp, encEv, bne_not]) ?_
              simp (maxSteps := 4000000) only [method_specs_simp, seval, encEv, bne_not]
              try simp
theorem grRight_pos {g : Gr} (h : Gm.grRight g = true) : ∀ e ∈ g.events, 1 ≤ e.id := by
  simp only [Gm.grRight, Gm.rowR, Bool.and_eq_true] at h
  intro e he
  have := ((Gm.rowFrom_srt h.2.1.2).2 e he).1
  simp only [Gm.evRight, Bool.and_eq_true, Gm.isB_iff] at this
  omega
theorem LS.of {g : Gr} {s : List Ent} (hg : GrOK g) (hl : s.length * 24 ≤ 2 ^ 47) (hr : Gm.grRight g = true) (hst : stateE g s = true) : LS g s := by
  refine ⟨⟨hg.1.1, (grRight_srt hr).1, hl, (stateE_ss hst).1⟩, fun k q => ?_⟩
  have hp := grRight_pos hr
  unfold idS curE idS
  cases hf : s.find? (isK k q) with
  | none =>
    refine Or.inl ⟨rfl, ?_⟩
    show atE g.events 0 = none
    refine List.find?_eq_none.2 fun e he => ?_
    have := hp e he
    simp only [beq_iff_eq]
    omega
  | some x =>
    have h1 := List.mem_of_find?_eq_some hf
    simp only [stateE, Bool.and_eq_true, List.all_eq_true] at hst
    have h2 := hst.2 x h1
    simp only [entOf, Bool.and_eq_true] at h2
    have h3 := h2.1
    rw [atE_has] at h3
    obtain ⟨e, h4, h5⟩ := Gm.fid_get h3
    have := hp e (List.mem_of_getElem? h4)
    exact Or.inr ⟨by show 0 < x.id; omega, h3⟩
theorem c_specAllowed (g : Gr) (s : List Ent) (e : Ev) (hg : GrOK g) (he : EvOK e) (hl : s.length * 24 ≤ 2 ^ 47) : Con P 31 [.agg (encGr g), .sl 3 (s.map encEnt), .agg (encEv e)] (.int .i64 (allowedG g s e)) := by
  have h1 : List.take 3 (encGr g) = encGr g := rfl
  have h2 : 3 ≤ (encGr g).length := Nat.le_refl 3
  have h3 : List.take 9 (encEv e) = encEv e := rfl
  have h4 : 9 ≤ (encEv e).length := Nat.le_refl 9
  unfold allowedG
  refine Con.of (n := 28) (rs := [.tmp 6]) (Is.fn Try.func31) rfl (Is.call Try.call31) Try.results31 Try.ntmps31 trivial ?_
  simp (maxSteps := 4000000) only [method_specs_simp, seval]
  refine gB_split (fun h => ?_) (fun h => ?_)
  · simp only [decide_eq_true_eq, Int.ofNat_lt] at h
    have : stateE g s = false := by
      simp only [stateE, stateOk, Bool.and_eq_false_iff, decide_eq_false_iff_not]
      exact Or.inl (Or.inr (by omega))
    rw [this]
    simp
  · refine ⟨h2, ?_⟩
    rw [h1]
    refine clY.con (c_sGraphRight g hg) (by simp only [method_specs_simp]) ?_
    simp (maxSteps := 4000000) only [method_specs_simp, seval]
    cases k1 : Gm.grRight g
    · simp (maxSteps := 4000000) only [method_specs_simp, seval]
      try simp
    · simp (maxSteps := 4000000) only [method_specs_simp, seval]
      refine ⟨h2, ?_⟩
      rw [h1]
      refine clY.con (c_l05State g s hg hl) (by simp only [method_specs_simp]) ?_
      simp (maxSteps := 4000000) only [method_specs_simp, seval]
      cases k3 : stateE g s
      · simp (maxSteps := 4000000) only [method_specs_simp, seval]
        try simp
      · simp (maxSteps := 4000000) only [method_specs_simp, seval]
        refine ⟨h4, ?_⟩
        rw [h3]
        refine clY.con (c_sEventRight e he) (by simp only [method_specs_simp]) ?_
        simp (maxSteps := 4000000) only [method_specs_simp, seval]
        cases k2 : Gm.evRight e
        · simp (maxSteps := 4000000) only [method_specs_simp, seval]
          try simp
        · simp (maxSteps := 4000000) only [method_specs_simp, seval]
          refine ⟨h2, h4, ?_⟩
          rw [h1, h3]
          refine clY.con (c_l05Allowed g s e (LS.of hg hl k1 k3)) (by simp only [method_specs_simp]) ?_
          simp (maxSteps := 4000000) only [method_specs_simp, seval]
          try simp
end
end Go.Proofs.Ytijkkaoeijigkaa
