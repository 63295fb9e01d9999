/- Merging states, as the program does it. Conditions: a right graph, states of it. The states behind events; one event more in a history. Conditions: a right graph. The history of a right graph: its order, and that each state in it is one of the graph. Conditions: a right graph. The history of a right graph. Conditions: a right graph. The abstract machine: drawn regions in which looks at what nobody writes any more may come late. The abstract machine: what an array holds is told anew, where it names what is frozen. The reference's order of trial. Conditions: a right graph. The reference's merging of states, and that it comes to the program's. Conditions: a right graph, states of it. The reference's merging of states, walked. Conditions: a right graph, states of it. All of a right graph, as the reference reckons it. Conditions: a right graph. Why an event is refused: both sides, and the law. Conditions: sizes that fit a machine. States ahead of and behind an event: both sides, and the laws. Conditions: sizes that fit a machine. Lists of numbers: striking those that answer a closure. Conditions: lengths that fit a machine. The ends of a history, as the program finds them. Conditions: a right graph. The ends and the current state: the reference, and both laws. Conditions: sizes that fit a machine. Closed facts of the whole program that every row asks. No conditions. Of a new row that is handed back in part, the part alone is told. No conditions. The ends and the current state: bot -/
import Derived.Test.YtdldgbkdcpdbeaaGreatRows
import Derived.WalkKit
import Derived.ProofKit
import Derived.OpenShut
import Derived.ShutString
import Derived.ChangeOld
import Derived.Below
import Derived.SizedLaws
import Derived.Test.YtdldgbkdcpdbeaaGreatB5
set_option linter.unusedSimpArgs false
set_option linter.unusedVariables false
set_option maxRecDepth 10000
section
namespace Go.Proofs.YtdldgbkdcpdbeaaGreat
open Go.Pm
open Go.Gm (Ev Gr)
def encSS (s : List Ent) : List V := [.sl 3 (s.map encEnt)]
theorem encSS_ref1 (ok : Nat → Prop) (s : List Ent) : Refs ok (encSS s) := ⟨of_eq_true (encEnt_refs ok s), trivial⟩
@[method_specs_simp] theorem encSS_refs (ok : Nat → Prop) (l : List (List Ent)) : Refss ok (l.map encSS) = True := eq_true (Refss_map fun s => encSS_ref1 ok s)
@[method_specs_simp] theorem encSS_rens (ρ : Nat → Nat) (l : List (List Ent)) : renss ρ (l.map encSS) = l.map encSS := renss_map fun s => encSS_ref1 _ s
section
variable {P : Program} [Is P]
theorem c_indexFSS (xs : List (List Ent)) (f : FuncId) (caps : List V) (p : List Ent → Bool) (hc : Refs (fun _ => False) caps) (hf : ∀ x ∈ xs, Con P f ([.sl 3 (x.map encEnt)] ++ caps) (.bool (p x))) (hx : xs.length < 2 ^ 62) : Con P 89 [.sl 1 (xs.map encSS), .fn f [] caps] (.int .i64 (idxP p xs)) := by
 refine Con.of (n := 19) (rs := [.tmp 4]) (Is.fn Tryz.func89) rfl (Is.call Tryz.call89) Tryz.results89 Tryz.ntmps89 trivial ?_
 simp only [method_specs_simp, seval]
 refine SW.while (A := Nat) (fun k => ⟨pad 19 [.sl 1 (xs.map encSS), .fn f [] caps, .junk, .junk, .int .i64 0, .junk, .sl 1 (xs.map encSS), .int .i64 xs.length, .int .i64 k], [], []⟩) (fun k => xs.length - k)
   (fun k => k ≤ xs.length ∧ idxP p xs = if (xs.drop k).any p then (k : Int) + (((xs.drop k).findIdx p : Nat) : Int) else -1) 0 [] ⟨Nat.zero_le _, by simp [idxP]⟩ ?_ ?_
 · simp only [mvcgen_simp, method_specs_simp, seval, rens_pure _ hc]
   exact Refs.mono (fun _ h => h.elim) _ hc
 · rintro k ⟨hk, hr⟩
   rw [hr]
   refine CW.sound ?_
   simp only [method_specs_simp, seval]
   refine gB_split (fun h => ?_) (fun h => ?_)
   · simp only [decide_eq_true_eq, Int.ofNat_lt] at h
     have hxk : xs[k]? = some xs[k] := List.getElem?_eq_getElem h
     have hfk := hf _ (List.getElem_mem h)
     generalize xs[k] = x at hxk hfk
     rw [drop_cons hxk]
     simp only [List.getElem?_map, hxk, encSS, method_specs_simp, seval]
     refine ⟨by omega, by omega, ?_⟩
     refine clY.conC hfk rfl ⟨of_eq_true (encEnt_refs _ x), hc⟩ ?_
     simp only [method_specs_simp, seval]
     refine gB_split (fun h1 => ?_) (fun h1 => ?_)
     · rw [idxP_hit h1]
     · rw [wrap_id (by omega) (by omega), idxP_miss h1]
       refine Again.mk (k + 1) [] ⟨h, rfl⟩ (Nat.sub_lt_sub_left h (Nat.lt_succ_self _)) ?_
       simp only [mvcgen_simp, method_specs_simp, seval, rens_pure _ hc]
       exact Refs.mono (fun _ h => h.elim) _ hc
   · simp only [decide_eq_false_iff_not, Bool.not_true, Int.ofNat_lt] at h
     rw [List.drop_eq_nil_of_le (by omega)]
     simp
theorem c_containsFSS (xs : List (List Ent)) (f : FuncId) (caps : List V) (p : List Ent → Bool) (hc : Refs (fun _ => False) caps) (hf : ∀ x ∈ xs, Con P f ([.sl 3 (x.map encEnt)] ++ caps) (.bool (p x))) (hx : xs.length < 2 ^ 62) : Con P 53 [.sl 1 (xs.map encSS), .fn f [] caps] (.bool (xs.any p)) := by
 refine Con.of (n := 9) (rs := [.tmp 4]) (Is.fn Tryz.func53) rfl (Is.call Tryz.call53) Tryz.results53 Tryz.ntmps53 trivial ?_
 simp only [method_specs_simp, seval]
 refine clY.con (c_indexFSS xs f caps p hc hf hx) ⟨of_eq_true (encSS_refs _ xs), ⟨trivial, hc⟩, trivial⟩ ?_
 simp only [method_specs_simp, seval]
 exact idxP_ge p xs
end
def missS (l : List (List Ent)) (x : Ent) : Bool := l.any fun s => !s.any (entEq x)
def com (l : List (List Ent)) : List Ent := match l with
 | [] => []
 | s :: _ => s.filter fun x => !missS l x
def othI : List Int → List Ent → List Int
 | _, [] => []
 | met, x :: l => if met.contains x.id then othI met l else x.id :: othI (met ++ [x.id]) l
theorem othI_snoc : ∀ (l : List Ent) (met : List Int) (x : Ent), othI met (l ++ [x]) = othI met l ++ (if (met ++ othI met l).contains x.id then [] else [x.id])
 | [], met, x => by simp only [List.nil_append, othI, List.append_nil]
 | y :: l, met, x => by
   rw [List.cons_append]
   simp only [othI]
   split
   · exact othI_snoc l met x
   · rw [othI_snoc l _ x]
     simp
def evOf (g : Gr) (id : Int) : Ev := (atE g.events id).getD zE
def entE (e : Ev) : Ent := ⟨e.kind, e.key, e.id⟩
def stepR (g : Gr) (out : List Ent) (e : Ev) : List Ent := if allowedE g out e == 0 then putI out (entE e) else out
theorem sw_meet {P : Program} {x y : Code} {st : St} {Q : Exit → St → Prop} (stm : St) (h1 : Go.Pm.SW P x st (andThen (Again (fun _ : Bool => stm) Bool.toNat (fun _ => True) true) Q)) (h2 : Go.Pm.SW P y stm Q) : Go.Pm.SW P (.seq x y) st Q := by
 refine Go.Pm.SW.seq (Go.Pm.SW.mono h1 fun e st' h => ?_)
 cases e with
 | normal =>
   obtain ⟨a, ks, _, _, h⟩ := h
   exact Go.Pm.SW.wk ks h h2
 | exit id => exact h
 | goto l => exact h
 | ret => exact h
 | panic ch => exact h
 | outgrown => exact h
theorem again_meet {stm st' : St} (ks : List Nat) (h : Wk ks st' stm) : Again (fun _ : Bool => stm) Bool.toNat (fun _ => True) true st' := Again.mk false ks trivial (by decide) h
def metP (met : List Int) (k : Int) : List Int := if met.contains k then met else met ++ [k]
theorem put_in : ∀ (met : List Int) (k : Int), met.contains k = true → putK (metL met) k true = metL met
 | [], k, h => by simp at h
 | x :: met, k, h => by
   rw [List.contains_cons, Bool.or_eq_true] at h
   simp only [metL, putK, List.map_cons]
   cases hb : k == x with
   | true => rfl
   | false =>
     have ih := put_in met k (h.resolve_left (by rw [hb]; decide))
     simp only [metL] at ih
     simp only [Bool.false_eq_true, if_false, ih]
theorem put_metP (met : List Int) (k : Int) : putK (metL met) k true = metL (metP met k) := by
 unfold metP
 cases h : met.contains k with
 | true => rw [if_pos rfl]; exact put_in met k h
 | false => rw [if_neg (by decide)]; exact put_met met k h
def idsM (l : List Ent) : List Int := l.foldl (fun m x => metP m x.id) []
theorem idsM_next {l : List Ent} {i : Nat} {y : Ent} (h : l[i]? = some y) : idsM (l.take (i + 1)) = metP (idsM (l.take i)) y.id := by
 unfold idsM
 rw [List.take_add_one, h, Option.toList_some, List.foldl_append]; rfl
theorem convs_r8j {m : List Ob} {a b c d e f g h : V} {l : List V} : convs m (r8 a b c d e f g h l) = r8 (conv m a) (conv m b) (conv m c) (conv m d) (conv m e) (conv m f) (conv m g) (conv m h) (convs m l) := rfl
theorem conv_junkj {m : List Ob} : conv m .junk = .junk := rfl
theorem othI_spec : ∀ (l : List Ent) (met : List Int), (othI met l).Nodup ∧ ∀ z ∈ othI met l, z ∉ met ∧ ∃ x ∈ l, x.id = z
 | [], met => ⟨List.nodup_nil, fun z hz => by simp [othI] at hz⟩
 | y :: l, met => by
   simp only [othI]
   split
   · obtain ⟨h1, h2⟩ := othI_spec l met
     exact ⟨h1, fun z hz => ⟨(h2 z hz).1, by obtain ⟨x, hx, e⟩ := (h2 z hz).2; exact ⟨x, List.mem_cons_of_mem _ hx, e⟩⟩⟩
   · rename_i hc
     obtain ⟨h1, h2⟩ := othI_spec l (met ++ [y.id])
     refine ⟨List.nodup_cons.2 ⟨fun hm => (h2 _ hm).1 (by simp), h1⟩, fun z hz => ?_⟩
     rcases List.mem_cons.1 hz with rfl | hz
     · exact ⟨fun hm => hc (List.contains_iff_mem.2 hm), y, List.mem_cons_self, rfl⟩
     · obtain ⟨a1, x, hx, e⟩ := h2 z hz
       exact ⟨fun hm => a1 (List.mem_append_left _ hm), x, List.mem_cons_of_mem _ hx, e⟩
def othE (g : Gr) (l : List (List Ent)) : List Ev := (othI (idsM (com l)) l.flatten).map (evOf g)
def fk (e : Ev) : Int := if firstE e then 0 else 1
theorem cmpD_iff {D : List (Int × Int)} {a b : Ev} : cmpD D a b < 0 ↔ fk a < fk b ∨ (fk a = fk b ∧ (lookD D a.id 0 < lookD D b.id 0 ∨ (lookD D a.id 0 = lookD D b.id 0 ∧ (a.time < b.time ∨ (a.time = b.time ∧ a.id < b.id))))) := by
 have hc : ∀ p q : Int, (cmpI p q < 0 ↔ p < q) ∧ (cmpI p q = 0 ↔ p = q) := fun p q => by
   unfold cmpI
   constructor <;> split <;> (try split) <;> omega
 have h1 := hc (lookD D a.id 0) (lookD D b.id 0)
 have h2 := hc a.time b.time
 have h3 := hc a.id b.id
 have key : ∀ p q r : Int, (orL [p, q, r] < 0 ↔ p < 0 ∨ (p = 0 ∧ (q < 0 ∨ (q = 0 ∧ r < 0)))) := by
   intro p q r
   simp only [orL, ne_eq, ite_not]
   split
   · split
     · split <;> omega
     · omega
   · omega
 have hk := key (cmpI (lookD D a.id 0) (lookD D b.id 0)) (cmpI a.time b.time) (cmpI a.id b.id)
 rw [h1.1, h1.2, h2.1, h2.2, h3.1] at hk
 unfold cmpD fk
 cases firstE a <;> cases firstE b
 · simpa using hk
 · simp
 · simp
 · simpa using hk
theorem cmpD_irr (D : List (Int × Int)) (a : Ev) : ¬ cmpD D a a < 0 := by rw [cmpD_iff]; omega
theorem cmpD_tr {D : List (Int × Int)} {a b c : Ev} (h1 : cmpD D a b < 0) (h2 : cmpD D b c < 0) : cmpD D a c < 0 := by rw [cmpD_iff] at *; omega
theorem cmpD_nt {D : List (Int × Int)} {a b c : Ev} (h1 : ¬ cmpD D a b < 0) (h2 : ¬ cmpD D b c < 0) : ¬ cmpD D a c < 0 := by rw [cmpD_iff] at *; omega
theorem cmpD_tot {D : List (Int × Int)} {a b : Ev} (h : a.id ≠ b.id) (h1 : ¬ cmpD D b a < 0) : cmpD D a b < 0 := by rw [cmpD_iff] at *; omega
def ordR (D : List (Int × Int)) (L : List Ev) : List Ev := L.mergeSort fun a b => !decide (cmpD D b a < 0)
def resI (g : Gr) (D : List (Int × Int)) (l : List (List Ent)) : List Ent := (ordR D (othE g l)).foldl (stepR g) (com l)
theorem ordR_uniq {D : List (Int × Int)} {L : List Ev} (hn : (L.map (·.id)).Nodup) {l2 : List Ev} (hp : l2.Perm L) (hs : l2.Pairwise fun a b => ¬ cmpD D b a < 0) : l2 = ordR D L := by
 have key : ∀ l3 : List Ev, l3.Perm L → (l3.Pairwise fun a b => ¬ cmpD D b a < 0) → l3.Pairwise fun a b => cmpD D a b < 0 := by
   intro l3 hp3 hs3
   have hn3 : (l3.map (·.id)).Nodup := (hp3.map (·.id)).symm.nodup hn
   have h4 : l3.Pairwise fun a b => a.id ≠ b.id := List.pairwise_map.1 hn3
   exact List.Pairwise.imp (fun {a b} h => cmpD_tot h.2 h.1) (hs3.and h4)
 have hm : (ordR D L).Pairwise fun a b => ¬ cmpD D b a < 0 := by
   have := List.pairwise_mergeSort (le := fun a b => !decide (cmpD D b a < 0)) (fun a b c h1 h2 => by simp only [Bool.not_eq_true', decide_eq_false_iff_not] at *; exact cmpD_nt h2 h1) (fun a b => by
     simp only [Bool.or_eq_true, Bool.not_eq_true', decide_eq_false_iff_not]
     by_cases h : cmpD D b a < 0
     · exact .inr fun h2 => cmpD_irr D a (cmpD_tr h2 h)
     · exact .inl h) L
   exact List.Pairwise.imp (fun {a b} h => by simpa using h) this
 have hpm : (ordR D L).Perm L := List.mergeSort_perm _ _
 exact Gm.sorted_one (T := fun a b => cmpD D a b < 0) ⟨cmpD_irr D, fun a b c h1 h2 => cmpD_tr h1 h2⟩ (hp.trans hpm.symm) (key _ hp hs) (key _ hpm hm)
structure SL (g : Gr) (l : List (List Ent)) : Prop where
 n : l.length ≤ 60
 len : ∀ s ∈ l, s.length ≤ 400
 srt : ∀ s ∈ l, s.Pairwise ltE
 has : ∀ s ∈ l, ∀ x ∈ s, entOf g x = true
theorem evOf_id {g : Gr} {x : Ent} (h : entOf g x = true) : (evOf g x.id).id = x.id := by
 unfold entOf at h
 simp only [Bool.and_eq_true] at h
 unfold evOf
 cases hh : atE g.events x.id with
 | none => rw [hh] at h; exact absurd h.1 (by decide)
 | some e =>
   have := List.find?_some hh
   simpa using this
theorem othE_nodup {g : Gr} {l : List (List Ent)} (hl : SL g l) : ((othE g l).map (·.id)).Nodup := by
 obtain ⟨h1, h2⟩ := othI_spec l.flatten (idsM (com l))
 have : (othE g l).map (·.id) = othI (idsM (com l)) l.flatten := by
   unfold othE
   rw [List.map_map]
   conv => rhs; rw [← List.map_id (othI (idsM (com l)) l.flatten)]
   refine List.map_congr_left fun z hz => ?_
   obtain ⟨_, x, hx, e⟩ := h2 z hz
   obtain ⟨s, hs, hxs⟩ := List.mem_flatten.1 hx
   have := evOf_id (hl.has s hs x hxs)
   rw [e] at this
   exact this
 rw [this]; exact h1
def preL (l : List (List Ent)) (i : Nat) (s : List Ent) (j : Nat) : List Ent := (l.take i).flatten ++ s.take j
theorem preL_next {l : List (List Ent)} {i : Nat} {s : List Ent} (h : l[i]? = some s) : preL l (i + 1) [] 0 = preL l i s s.length := by
 unfold preL
 rw [List.take_add_one, h, Option.toList_some, List.flatten_append, List.take_length]
 simp
theorem preL_zero (l : List (List Ent)) (i : Nat) (s : List Ent) : preL l i s 0 = preL l i [] 0 := by simp [preL]
theorem preL_all (l : List (List Ent)) : preL l l.length [] 0 = l.flatten := by unfold preL; rw [List.take_length]; simp
theorem preL_step {l : List (List Ent)} {i : Nat} {s : List Ent} {j : Nat} {y : Ent} (h : s[j]? = some y) : preL l i s (j + 1) = preL l i s j ++ [y] := by
 unfold preL
 rw [List.take_add_one, h, Option.toList_some, List.append_assoc]
theorem othI_len : ∀ (l : List Ent) (met : List Int), (othI met l).length ≤ l.length
 | [], _ => Nat.le_refl _
 | x :: l, met => by
   simp only [othI]
   split
   · have := othI_len l met; simp only [List.length_cons]; omega
   · have := othI_len l (met ++ [x.id]); simp only [List.length_cons]; omega
theorem flat_len {l : List (List Ent)} (h : ∀ s ∈ l, s.length ≤ 400) : l.flatten.length ≤ 400 * l.length := by
 induction l with
 | nil => exact Nat.zero_le _
 | cons s l ih =>
   have h1 := h s List.mem_cons_self
   have h2 := ih fun s hs => h s (List.mem_cons_of_mem _ hs)
   simp only [List.flatten_cons, List.length_append, List.length_cons]
   omega
theorem oth_bound {g : Gr} {l : List (List Ent)} (hl : SL g l) (met : List Int) (i : Nat) {s : List Ent} (hs : s.length ≤ 400) (j : Nat) : (othI met (preL l i s j)).length ≤ 30000 := by
 have h1 := othI_len (preL l i s j) met
 have h2 := flat_len (l := l.take i) fun s hs => hl.len s (List.mem_of_mem_take hs)
 have h3 := hl.n
 have h4 : (l.take i).length ≤ l.length := by rw [List.length_take]; omega
 have h5 : (s.take j).length ≤ s.length := by rw [List.length_take]; omega
 unfold preL at h1
 rw [List.length_append] at h1
 unfold preL
 omega
def comA (l : List (List Ent)) (s : List Ent) (j : Nat) : List Ent := (s.take j).filter fun x => !missS l x
section
variable {P : Program} [Is P]
theorem c_put (xs : List Ent) (x : Ent) (hx : (xs.length + 1) * 24 ≤ 2 ^ 39) : Con P 101 [.sl 3 (xs.map encEnt), .agg (encEnt x)] (.sl 3 ((putI xs x).map encEnt)) := by
 have h := (n119 (P := P) xs x hx).con (by simp only [method_specs_simp])
 have e : convR [Ob.arr true 3 ((putI xs x).map encEnt)] (.ar 0 0 (putI xs x).length) = .sl 3 ((putI xs x).map encEnt) := by simp only [method_specs_simp, List.take_of_length_le, List.length_map, Nat.le_refl]
 rwa [e] at h
theorem b_sortEv : bodyOK P 95 = true := Is.on (fun P => bodyOK P 95 = true) (by kernel_rfl)
theorem n_resolve (g : Gr) (x : Hs) (l : List (List Ent)) (h : GG g) (hl : SL g l) : NCon P 56 [hV g x, .sl 1 (l.map encSS)] (.ar 0 0 (resI g x.D l).length) [.arr true 3 ((resI g x.D l).map encEnt)] := by
 have hln := hl.n
 refine LCon.new (LCon.ofS (n := 117) (rs := [.tmp 4]) (Is.fn Tryz.func56) rfl (Is.call Tryz.call56) Tryz.results56 Tryz.ntmps56 ?_) (pure1 (pure_ents _ _))
 refine SW.seq (CW.sound ?_)
 simp only [method_specs_simp, seval, hV, hRow]
 refine SW.seq (CW.sound ?_)
 simp only [method_specs_simp, seval, hV, hRow]
 refine sw_meet ⟨pad 117 [.junk, .sl 1 (l.map encSS), .ptr 0 0, .junk, .nil, .ar 1 0 (com l).length, .ar 2 0 0], [.box true [hV g x], .arr true 3 ((com l).map encEnt), .arr true 9 []], []⟩ ?_ ?_
 · refine CW.sound ?_
   simp only [method_specs_simp, seval, hV, hRow]
   refine gB_split (fun hpos => ?_) (fun hpos => ?_)
   · simp only [decide_eq_true_eq] at hpos
     obtain ⟨s0, hs0⟩ : ∃ s0, l[0]? = some s0 := ⟨_, List.getElem?_eq_getElem (by omega)⟩
     have hs0l := hl.len s0 (List.mem_of_getElem? hs0)
     have hcom : com l = comA l s0 s0.length := by
       cases l with
       | nil => simp at hs0
       | cons s l => simp at hs0; subst hs0; unfold com comA; rw [List.take_length]
     simp only [method_specs_simp, seval, hV, hRow, hs0, encSS]
     refine ⟨by omega, ?_⟩
     refine SW.while (A := Nat) (fun j => ⟨pad 117 [.junk, .sl 1 (l.map encSS), .ptr 0 0, .junk, .nil, .ar 1 0 (comA l s0 j).length, .ar 2 0 0, .junk, .junk, .junk, .junk, .junk, .junk, .junk, .junk, .junk, .junk, .junk, .junk, .junk, .junk, .junk, .junk, .junk, .junk, .junk, .junk, .sl 3 (s0.map encEnt), .int .i64 s0.length, .int .i64 j], [.box true [hV g x], .arr true 3 ((comA l s0 j).map encEnt), .arr true 9 []], []⟩) (fun j => s0.length - j) (fun j => j ≤ s0.length) 0 [0, 1, 2] (Nat.zero_le _) ?_ ?_
     · have h0 : comA l s0 0 = [] := rfl
       rw [h0]
       simp only [mvcgen_simp, method_specs_simp, seval, hV, hRow]
     · intro j hj
       have hal : (comA l s0 j).length ≤ 400 := by
         have h1 := List.length_filter_le (fun x => !missS l x) (s0.take j)
         unfold comA
         rw [List.length_take] at h1
         omega
       have w1 : IntKind.i64.wrap ((j : Int) + 1) = ((j + 1 : Nat) : Int) := wadd1 j (by omega)
       refine CW.sound ?_
       simp only [method_specs_simp, seval, hV, hRow]
       refine gB_split (fun h1 => ?_) (fun h1 => ?_)
       · simp only [decide_eq_true_eq, Int.ofNat_lt] at h1
         obtain ⟨y, hy⟩ : ∃ y, s0[j]? = some y := ⟨_, List.getElem?_eq_getElem h1⟩
         simp only [method_specs_simp, seval, hV, hRow, hy, encEnt]
         refine ⟨by omega, by omega, ?_⟩
         refine clY.conF (c_containsFSS l _ [.fptr (encEnt y) 0] (fun s => !s.any (entEq y)) ⟨of_eq_true (encEnt_refs1 _ y), trivial⟩ (fun s hs => c_resolve1 s y (by have := hl.len s hs; omega)) (by omega)) (by simp only [method_specs_simp, encEnt]) ⟨of_eq_true (encSS_refs _ l), ⟨trivial, of_eq_true (encEnt_refs1 _ y), trivial⟩, trivial⟩ trivial ?_
         have hnx : comA l s0 (j + 1) = comA l s0 j ++ (if (!missS l y) = true then [y] else []) := by unfold comA; rw [filter_s hy]
         change _
         cases hms : missS l y with
         | true =>
           rw [hms, Bool.not_true, if_neg (by decide), List.append_nil] at hnx
           have hms2 : (l.any fun s => !s.any (entEq y)) = true := hms
           rw [hms2]
           simp only [method_specs_simp, seval, hV, hRow]
           refine Again.mk (j + 1) [0, 1, 2] h1 (Nat.sub_lt_sub_left h1 (Nat.lt_succ_self _)) ?_
           rw [hnx]
           simp only [mvcgen_simp, method_specs_simp, seval, hV, hRow, w1]
         | false =>
           rw [hms, Bool.not_false, if_pos rfl] at hnx
           have hms2 : (l.any fun s => !s.any (entEq y)) = false := hms
           rw [hms2]
           have e1 : (comA l s0 j).map encEnt ++ [[V.int .i64 y.kind, V.int .i64 y.key, V.int .i64 y.id]] = (comA l s0 (j + 1)).map encEnt := by rw [hnx, List.map_append]; rfl
           have e2 : (comA l s0 j).length + 1 = (comA l s0 (j + 1)).length := by rw [hnx, List.length_append]; rfl
           simp only [method_specs_simp, seval, hV, hRow]
           refine ⟨by omega, by omega, ?_⟩
           rw [e1, e2]
           refine Again.mk (j + 1) [0, 5, 2] h1 (Nat.sub_lt_sub_left h1 (Nat.lt_succ_self _)) ?_
           simp only [mvcgen_simp, method_specs_simp, seval, hV, hRow, w1]
       · have hj2 : j = s0.length := by simp only [decide_eq_false_iff_not, Bool.not_true, Int.ofNat_lt] at h1; omega
         refine again_meet [0, 1, 2] ?_
         rw [hcom, hj2]
         simp only [mvcgen_simp, method_specs_simp, seval, hV, hRow]
   · have hl0 : l = [] := by
       cases l with
       | nil => rfl
       | cons s l => simp at hpos
     subst hl0
     refine again_meet [0, 1, 2] ?_
     have h0 : com [] = [] := rfl
     rw [h0]
     simp only [mvcgen_simp, method_specs_simp, seval, hV, hRow]
 · have hcl : (com l).length ≤ 400 := by
     cases l with
     | nil => exact Nat.zero_le _
     | cons s l =>
       have h1 := hl.len s List.mem_cons_self
       have h2 := List.length_filter_le (fun x => !missS (s :: l) x) s
       show (s.filter fun x => !missS (s :: l) x).length ≤ 400
       omega
   obtain ⟨o, ho⟩ : ∃ o, o = com l := ⟨_, rfl⟩
   rw [← ho] at hcl ⊢
   refine SW.seq (CW.sound ?_)
   simp only [method_specs_simp, seval, hV, hRow]
   refine sw_meet ⟨pad 117 [.junk, .sl 1 (l.map encSS), .ptr 0 0, .junk, .nil, .ar 1 0 o.length, .ar 2 0 0, .junk, .junk, .map 3], [.box true [hV g x], .arr true 3 (o.map encEnt), .arr true 9 [], .mp true (mpI .i64 V.bool (metL (idsM o))).1 (mpI .i64 V.bool (metL (idsM o))).2], []⟩ ?_ ?_
   · refine CW.sound ?_
     simp only [method_specs_simp, seval, hV, hRow]
     refine SW.while (A := Nat) (fun j => ⟨pad 117 [.junk, .sl 1 (l.map encSS), .ptr 0 0, .junk, .nil, .ar 1 0 o.length, .ar 2 0 0, .junk, .junk, .map 3, .junk, .junk, .junk, .junk, .junk, .junk, .junk, .junk, .junk, .junk, .junk, .junk, .junk, .junk, .junk, .junk, .junk, .junk, .junk, .junk, .junk, .junk, .junk, .junk, .junk, .junk, .junk, .junk, .junk, .junk, .junk, .junk, .junk, .ar 1 0 o.length, .int .i64 o.length, .int .i64 j], [.box true [hV g x], .arr true 3 (o.map encEnt), .arr true 9 [], .mp true (mpI .i64 V.bool (metL (idsM (o.take j)))).1 (mpI .i64 V.bool (metL (idsM (o.take j)))).2], []⟩) (fun j => o.length - j) (fun j => j ≤ o.length) 0 [0, 1, 2, 3] (Nat.zero_le _) ?_ ?_
     · have h0 : idsM (o.take 0) = [] := rfl
       have hz : mpI .i64 V.bool (metL []) = ([], []) := rfl
       rw [h0]
       simp only [mvcgen_simp, method_specs_simp, seval, hV, hRow, hz]
     · intro j hj
       have w1 : IntKind.i64.wrap ((j : Int) + 1) = ((j + 1 : Nat) : Int) := wadd1 j (by omega)
       refine CW.sound ?_
       simp only [method_specs_simp, seval, hV, hRow]
       refine gB_split (fun h1 => ?_) (fun h1 => ?_)
       · simp only [decide_eq_true_eq, Int.ofNat_lt] at h1
         obtain ⟨y, hy⟩ : ∃ y, o[j]? = some y := ⟨_, List.getElem?_eq_getElem h1⟩
         simp only [method_specs_simp, seval, hV, hRow, hy, encEnt]
         refine ⟨by omega, by omega, ?_⟩
         refine muY.ints V.bool (metL (idsM (o.take j))) true false rfl (by simp only [method_specs_simp]) ?_
         rw [put_metP, ← idsM_next hy]
         simp only [method_specs_simp, seval, hV, hRow]
         refine Again.mk (j + 1) [0, 1, 2, 3] h1 (Nat.sub_lt_sub_left h1 (Nat.lt_succ_self _)) ?_
         simp only [mvcgen_simp, method_specs_simp, seval, hV, hRow, w1]
       · have hj2 : j = o.length := by simp only [decide_eq_false_iff_not, Bool.not_true, Int.ofNat_lt] at h1; omega
         refine again_meet [0, 1, 2, 3] ?_
         rw [hj2, List.take_of_length_le (Nat.le_refl _)]
         simp only [mvcgen_simp, method_specs_simp, seval, hV, hRow]
   · refine sw_meet ⟨pad 117 [.junk, .junk, .ptr 0 0, .junk, .nil, .ar 1 0 o.length, .ar 2 0 (othI (idsM o) l.flatten).length], [.box true [hV g x], .arr true 3 (o.map encEnt), .arr true 9 (((othI (idsM o) l.flatten).map (evOf g)).map encEv)], []⟩ ?_ ?_
     · refine CW.sound ?_
       simp only [method_specs_simp, seval, hV, hRow]
       refine SW.while (A := Nat) (fun i => ⟨pad 117 [.junk, .junk, .ptr 0 0, .junk, .nil, .ar 1 0 o.length, .ar 2 0 (othI (idsM o) (preL l i [] 0)).length, .junk, .junk, .map 3, .junk, .junk, .junk, .junk, .junk, .junk, .junk, .junk, .junk, .junk, .junk, .junk, .junk, .junk, .junk, .junk, .junk, .junk, .junk, .junk, .junk, .junk, .junk, .junk, .junk, .junk, .junk, .junk, .junk, .junk, .junk, .junk, .junk, .junk, .junk, .junk, .junk, .junk, .junk, .junk, .junk, .junk, .junk, .sl 1 (l.map encSS), .int .i64 l.length, .int .i64 i], [.box true [hV g x], .arr true 3 (o.map encEnt), .arr true 9 (((othI (idsM o) (preL l i [] 0)).map (evOf g)).map encEv), .mp true (mpI .i64 V.bool (metL (idsM o ++ othI (idsM o) (preL l i [] 0)))).1 (mpI .i64 V.bool (metL (idsM o ++ othI (idsM o) (preL l i [] 0)))).2], []⟩) (fun i => l.length - i) (fun i => i ≤ l.length) 0 [0, 1, 2, 3] (Nat.zero_le _) ?_ ?_
       · have h0 : othI (idsM o) (preL l 0 [] 0) = [] := rfl
         rw [h0, List.append_nil]
         simp only [mvcgen_simp, method_specs_simp, seval, hV, hRow]
       · intro i hi
         have w1 : IntKind.i64.wrap ((i : Int) + 1) = ((i + 1 : Nat) : Int) := wadd1 i (by omega)
         refine CW.sound ?_
         simp only [method_specs_simp, seval, hV, hRow]
         refine gB_split (fun h1 => ?_) (fun h1 => ?_)
         · simp only [decide_eq_true_eq, Int.ofNat_lt] at h1
           obtain ⟨s, hs⟩ : ∃ s, l[i]? = some s := ⟨_, List.getElem?_eq_getElem h1⟩
           have hsl := hl.len s (List.mem_of_getElem? hs)
           simp only [method_specs_simp, seval, hV, hRow, hs, encSS]
           refine ⟨by omega, by omega, ?_⟩
           refine SW.while (A := Nat) (fun j => ⟨pad 117 [.junk, .junk, .ptr 0 0, .junk, .nil, .ar 1 0 o.length, .ar 2 0 (othI (idsM o) (preL l i s j)).length, .junk, .junk, .map 3, .junk, .junk, .junk, .junk, .junk, .junk, .junk, .junk, .junk, .junk, .junk, .junk, .junk, .junk, .junk, .junk, .junk, .junk, .junk, .junk, .junk, .junk, .junk, .junk, .junk, .junk, .junk, .junk, .junk, .junk, .junk, .junk, .junk, .junk, .junk, .junk, .junk, .junk, .junk, .junk, .junk, .junk, .junk, .sl 1 (l.map encSS), .int .i64 l.length, .int .i64 i, .junk, .junk, .junk, .sl 3 (s.map encEnt), .int .i64 s.length, .int .i64 j], [.box true [hV g x], .arr true 3 (o.map encEnt), .arr true 9 (((othI (idsM o) (preL l i s j)).map (evOf g)).map encEv), .mp true (mpI .i64 V.bool (metL (idsM o ++ othI (idsM o) (preL l i s j)))).1 (mpI .i64 V.bool (metL (idsM o ++ othI (idsM o) (preL l i s j)))).2], []⟩) (fun j => s.length - j) (fun j => j ≤ s.length) 0 [0, 1, 2, 3] (Nat.zero_le _) ?_ ?_
           · rw [preL_zero l i s]
             simp only [mvcgen_simp, method_specs_simp, seval, hV, hRow]
           · intro j hj
             have hob := oth_bound hl (idsM o) i hsl j
             have w2 : IntKind.i64.wrap ((j : Int) + 1) = ((j + 1 : Nat) : Int) := wadd1 j (by omega)
             refine CW.sound ?_
             simp only [method_specs_simp, seval, hV, hRow]
             refine gB_split (fun h2 => ?_) (fun h2 => ?_)
             · simp only [decide_eq_true_eq, Int.ofNat_lt] at h2
               obtain ⟨y, hy⟩ : ∃ y, s[j]? = some y := ⟨_, List.getElem?_eq_getElem h2⟩
               have hst := preL_step (l := l) (i := i) hy
               obtain ⟨met, hmet⟩ : ∃ met, met = idsM o ++ othI (idsM o) (preL l i s j) := ⟨_, rfl⟩
               have hsn := othI_snoc (preL l i s j) (idsM o) y
               rw [← hst, ← hmet] at hsn
               simp only [method_specs_simp, seval, hV, hRow, hy, encEnt]
               refine ⟨by omega, by omega, ?_⟩
               refine lkY.ints V.bool (metL (idsM o ++ othI (idsM o) (preL l i s j))) false rfl (by simp only [method_specs_simp]) ?_
               rw [look_met, ← hmet]
               cases hmc : met.contains y.id with
               | true =>
                 rw [hmc, if_pos rfl, List.append_nil] at hsn
                 simp only [method_specs_simp, seval, hV, hRow]
                 refine Again.mk (j + 1) [0, 1, 2, 3] h2 (Nat.sub_lt_sub_left h2 (Nat.lt_succ_self _)) ?_
                 rw [hsn, ← hmet]
                 simp only [mvcgen_simp, method_specs_simp, seval, hV, hRow, w2]
               | false =>
                 rw [hmc, if_neg (by decide)] at hsn
                 simp only [method_specs_simp, seval, hV, hRow]
                 refine muY.ints V.bool (metL met) true false rfl (by simp only [method_specs_simp]) ?_
                 rw [put_met met y.id hmc]
                 simp only [method_specs_simp, seval, hV, hRow]
                 refine ⟨by kernel_rfl, ?_⟩
                 refine clY.con (c_at g y.id h.hx h.srt) (by simp only [method_specs_simp, encGr]) ?_
                 obtain ⟨e2, he2⟩ : ∃ e2, e2 = (atE g.events y.id).getD zE := ⟨_, rfl⟩
                 have hev : evOf g y.id = e2 := he2.symm
                 rw [← he2]
                 simp only [method_specs_simp, seval, hV, hRow, encEv]
                 have e1 : ((othI (idsM o) (preL l i s j)).map (evOf g)).map encEv ++ [[V.int .i64 e2.id, V.int .i64 e2.room, V.int .i64 e2.author, V.int .i64 e2.kind, V.int .i64 e2.key, V.int .i64 e2.n, V.str e2.text, V.sl 1 (e2.prev.map encI), V.int .i64 e2.time]] = ((othI (idsM o) (preL l i s (j + 1))).map (evOf g)).map encEv := by rw [hsn, List.map_append, List.map_append, List.map_singleton, List.map_singleton, hev]; rfl
                 have e3 : (othI (idsM o) (preL l i s j)).length + 1 = (othI (idsM o) (preL l i s (j + 1))).length := by rw [hsn, List.length_append]; rfl
                 have e4 : met ++ [y.id] = idsM o ++ othI (idsM o) (preL l i s (j + 1)) := by rw [hsn, hmet, List.append_assoc]
                 refine ⟨by omega, by omega, ?_⟩
                 rw [e1, e3, e4]
                 refine Again.mk (j + 1) [0, 1, 7, 3] h2 (Nat.sub_lt_sub_left h2 (Nat.lt_succ_self _)) ?_
                 simp only [mvcgen_simp, method_specs_simp, seval, hV, hRow, w2]
             · have hj2 : j = s.length := by simp only [decide_eq_false_iff_not, Bool.not_true, Int.ofNat_lt] at h2; omega
               refine Again.mk (i + 1) [0, 1, 2, 3] h1 (Nat.sub_lt_sub_left h1 (Nat.lt_succ_self _)) ?_
               rw [preL_next hs, hj2]
               simp only [mvcgen_simp, method_specs_simp, seval, hV, hRow, w1]
         · have hi2 : i = l.length := by simp only [decide_eq_false_iff_not, Bool.not_true, Int.ofNat_lt] at h1; omega
           refine again_meet [0, 1, 2] ?_
           rw [hi2, preL_all]
           simp only [mvcgen_simp, method_specs_simp, seval, hV, hRow]
     · obtain ⟨L, hL⟩ : ∃ L, L = othE g l := ⟨_, rfl⟩
       have hL2 : (othI (idsM o) l.flatten).map (evOf g) = L := by rw [hL, ho]; rfl
       have hLn : (othI (idsM o) l.flatten).length = L.length := by rw [← hL2, List.length_map]
       have hLb : L.length ≤ 30000 := by
         have h1 := oth_bound hl (idsM o) l.length (s := []) (Nat.zero_le _) 0
         rw [preL_all, hLn] at h1
         exact h1
       have hso : LCon P 95 [.ar 0 0 L.length, .fn 96 [] [.fptr [hV g x] 0]] [.arr true 9 (L.map encEv)] (.tup []) [.arr true 9 ((ordR x.D L).map encEv)] :=
         LCon.sortK (k := 9) (fun _ => rfl) (by decide) (fun b => encEv_ref1 _ b) (fun b => encEv_one1 [] b) (caps := [.fptr [hV g x] 0]) ⟨⟨hRow_ref _ g x, trivial⟩, trivial⟩ (cmpD x.D) (fun a _ b _ => c_resolve2 g x a b) (fun a _ => cmpD_irr x.D a) (fun a _ b _ c _ h1 h2 => cmpD_tr h1 h2) (fun a _ b _ c _ h1 h2 => cmpD_nt h1 h2) (fun l2 hp hs => ordR_uniq (hL ▸ othE_nodup hl) hp hs) (by omega) b_sortEv (Is.call Tryz.call96) k_sortEvent k_sortEvent0
       rw [hL2, hLn]
       refine SW.seq (CW.sound ?_)
       simp only [method_specs_simp, seval, hV, hRow]
       refine clY.live [2] [0] hso ?_ (by simp) ?_
       · simp only [mvcgen_simp, method_specs_simp, seval, hV, hRow]
       obtain ⟨S, hS⟩ : ∃ S, S = ordR x.D L := ⟨_, rfl⟩
       have hSl : S.length = L.length := by rw [hS]; exact (List.mergeSort_perm _ _).length_eq
       rw [← hS]
       simp only [method_specs_simp, seval, hV, hRow]
       have htk : List.take S.length (S.map encEv) = S.map encEv := List.take_of_length_le (by rw [List.length_map]; exact Nat.le_refl _)
       have hRe : resI g x.D l = S.foldl (stepR g) o := by unfold resI; rw [hS, hL, ho]
       have hos : o.Pairwise ltE := by
         rw [ho]
         cases l with
         | nil => exact List.Pairwise.nil
         | cons s l => exact (hl.srt s List.mem_cons_self).sublist List.filter_sublist
       rw [hRe, ← hSl]
       refine SW.freeze [2] ?_
       simp only [mvcgen_simp, method_specs_simp, seval, hV, hRow, convs_r8j, conv_junkj, htk]
       refine SW.seq (CW.sound ?_)
       simp only [method_specs_simp, seval, hV, hRow]
       refine SW.while (A := Nat) (fun k => ⟨pad 117 [.junk, .junk, .fptr [hV g x] 0, .junk, .nil, .ar 0 0 ((S.take k).foldl (stepR g) o).length, .junk, .junk, .junk, .junk, .junk, .junk, .junk, .junk, .junk, .junk, .junk, .junk, .junk, .junk, .junk, .junk, .junk, .junk, .junk, .junk, .junk, .junk, .junk, .junk, .junk, .junk, .junk, .junk, .junk, .junk, .junk, .junk, .junk, .junk, .junk, .junk, .junk, .junk, .junk, .junk, .junk, .junk, .junk, .junk, .junk, .junk, .junk, .junk, .junk, .junk, .junk, .junk, .junk, .junk, .junk, .junk, .junk, .junk, .junk, .junk, .junk, .junk, .junk, .junk, .junk, .junk, .junk, .junk, .junk, .junk, .junk, .junk, .junk, .junk, .junk, .junk, .junk, .junk, .junk, .junk, .junk, .junk, .junk, .junk, .junk, .junk, .sl 9 (S.map encEv), .int .i64 S.length, .int .i64 k], [.arr true 3 (((S.take k).foldl (stepR g) o).map encEnt)], []⟩) (fun k => S.length - k) (fun k => k ≤ S.length ∧ ((S.take k).foldl (stepR g) o).Pairwise ltE ∧ ((S.take k).foldl (stepR g) o).length ≤ 400 + k) 0 [1] ⟨Nat.zero_le _, hos, by simpa using hcl⟩ ?_ ?_
       · simp only [mvcgen_simp, method_specs_simp, seval, hV, hRow, List.take_zero, List.foldl_nil]
       · rintro k ⟨hk, hk1, hk2⟩
         have w1 : IntKind.i64.wrap ((k : Int) + 1) = ((k + 1 : Nat) : Int) := wadd1 k (by omega)
         refine CW.sound ?_
         simp only [method_specs_simp, seval, hV, hRow]
         refine gB_split (fun h1 => ?_) (fun h1 => ?_)
         · simp only [decide_eq_true_eq, Int.ofNat_lt] at h1
           obtain ⟨e, he⟩ : ∃ e, S[k]? = some e := ⟨_, List.getElem?_eq_getElem h1⟩
           have hfs : (S.take (k + 1)).foldl (stepR g) o = stepR g ((S.take k).foldl (stepR g) o) e := by rw [List.take_add_one, he, Option.toList_some, List.foldl_append]; rfl
           obtain ⟨u, hu⟩ : ∃ u, u = (S.take k).foldl (stepR g) o := ⟨_, rfl⟩
           rw [← hu] at hk1 hk2 hfs ⊢
           simp only [method_specs_simp, seval, hV, hRow, he, encEv]
           refine ⟨by omega, by omega, by kernel_rfl, ?_⟩
           have hGS : GS g u := ⟨h.hx, h.srt, by omega, hk1⟩
           refine clY.conF (c_allowed g u e hGS) (by simp only [method_specs_simp, encGr, encEv]) (by simp only [method_specs_simp, encGr, encEv]) trivial ?_
           simp only [method_specs_simp, seval, hV, hRow]
           refine gB_split (fun hal => ?_) (fun hal => ?_)
           · have hst : stepR g u e = putI u (entE e) := by unfold stepR; rw [if_pos hal]
             rw [hst] at hfs
             have hput := put_same u (entE e) hk1
             have hpl := putI_len u (entE e)
             refine clY.newF (n119 u (entE e) (by omega)) (by simp only [method_specs_simp, encEnt, entE]) (by simp only [method_specs_simp, encEnt, entE]) trivial (flat1 ⟨rfl, flat_ents _⟩) ?_
             simp only [method_specs_simp, seval, hV, hRow]
             refine Again.mk (k + 1) [2] ⟨h1, by rw [hfs]; exact hput.2, by rw [hfs]; omega⟩ (Nat.sub_lt_sub_left h1 (Nat.lt_succ_self _)) ?_
             rw [hfs]
             simp only [mvcgen_simp, method_specs_simp, seval, hV, hRow, w1]
           · have hst : stepR g u e = u := by unfold stepR; rw [if_neg (by rw [hal]; decide)]
             rw [hst] at hfs
             refine Again.mk (k + 1) [0] ⟨h1, by rw [hfs]; exact hk1, by rw [hfs]; omega⟩ (Nat.sub_lt_sub_left h1 (Nat.lt_succ_self _)) ?_
             rw [hfs]
             simp only [mvcgen_simp, method_specs_simp, seval, hV, hRow, w1]
         · have hk3 : k = S.length := by simp only [decide_eq_false_iff_not, Bool.not_true, Int.ofNat_lt] at h1; omega
           rw [hk3, List.take_of_length_le (Nat.le_refl _)]
           refine CW.sound ?_
           simp only [method_specs_simp, seval, hV, hRow]
           refine LResY.mk [0] ?_
           simp only [mvcgen_simp, method_specs_simp, seval, hV, hRow]
theorem c_resolve (g : Gr) (x : Hs) (l : List (List Ent)) (h : GG g) (hl : SL g l) : Con P 56 [hV g x, .sl 1 (l.map encSS)] (.sl 3 ((resI g x.D l).map encEnt)) := by
 have h1 := (n_resolve (P := P) g x l h hl).con (by simp only [method_specs_simp])
 have e : convR [Ob.arr true 3 ((resI g x.D l).map encEnt)] (.ar 0 0 (resI g x.D l).length) = .sl 3 ((resI g x.D l).map encEnt) := by simp only [method_specs_simp, List.take_of_length_le, List.length_map, Nat.le_refl]
 rwa [e] at h1
end
end Go.Proofs.YtdldgbkdcpdbeaaGreat
end

section
namespace Go.Proofs.YtdldgbkdcpdbeaaGreat
open Go.Pm
open Go.Gm (Ev Gr)
def stsA (A : List (Int × Option (List Ent))) (ids : List Int) : List (List Ent) := ids.map fun id => (lookD A id none).getD []
def hL (g : Gr) (x : Hs) : V := .fptr [.int .i64 g.room, .sl 9 (g.events.map encEv), .sl 9 (g.parked.map encEv), .fmap (mpI .i64 (V.int .i64) x.D).1 (mpI .i64 (V.int .i64) x.D).2, .map 0, .map 1, .map 2] 0
def obN (l : List (Int × Int)) : Ob := .mp true (mpI .i64 (V.int .i64) l).1 (mpI .i64 (V.int .i64) l).2
def obS (l : List (Int × Option (List Ent))) : Ob := .mp true (mpI .i64 fS l).1 (mpI .i64 fS l).2
def hM (x : Hs) : List Ob := [obS x.B, obS x.A, obN x.R]
@[mvcgen_simp, method_specs_simp] theorem plc_mp {o : Nat} {lv : Bool} {ks vs : List V} {m : List Ob} : plc o (.mp lv ks vs :: m) = .map o :: plc (o + 1) m := nr rfl
@[mvcgen_simp, method_specs_simp] theorem oren_mp {ρ : Nat → Nat} {lv : Bool} {ks vs : List V} : Ob.ren ρ (.mp lv ks vs) = .mp lv (rens ρ ks) (rens ρ vs) := nr rfl
theorem conv_mapL {m : List Ob} {q : Nat} {ks vs : List V} (h : m[q]? = some (.mp true ks vs)) : conv m (.map q) = .map q := by
 unfold conv
 rw [h]
section
variable {P : Program} [Is P]
theorem n_states (g : Gr) (x : Hs) (ids : List Int) (hl : ids.length ≤ 60) (hi : ∀ id ∈ ids, (lookD x.A id none).isSome = true) : LCon P 104 [hL g x, .sl 1 (ids.map encI)] (hM x) (.sl 1 ((stsA x.A ids).map encSS)) (hM x) := by
 refine LCon.ofS (n := 26) (rs := [.tmp 4]) (Is.fn Tryz.func104) rfl (Is.call Tryz.call104) Tryz.results104 Tryz.ntmps104 ?_
 refine SW.seq (CW.sound ?_)
 simp only [method_specs_simp, seval, hL, hM, obN, obS]
 refine SW.seq (CW.sound ?_)
 simp only [method_specs_simp, seval, hL, hM, obN, obS]
 refine SW.seq (CW.sound ?_)
 simp only [method_specs_simp, seval, hL, hM, obN, obS]
 refine SW.while (A := Nat) (fun k => ⟨pad 26 [hL g x, .junk, .junk, .junk, .nil, .ar 3 0 (stsA x.A (ids.take k)).length, .junk, .junk, .junk, .sl 1 (ids.map encI), .int .i64 ids.length, .int .i64 k], hM x ++ [.arr true 1 ((stsA x.A (ids.take k)).map encSS)], plc 0 (hM x)⟩) (fun k => ids.length - k) (fun k => k ≤ ids.length) 0 [0, 1, 2, 3] (Nat.zero_le _) ?_ ?_
 · have h0 : stsA x.A (ids.take 0) = [] := rfl
   rw [h0]
   simp only [mvcgen_simp, method_specs_simp, seval, hL, hM, obN, obS]
 · intro k hk
   have hln : (stsA x.A (ids.take k)).length = k := by unfold stsA; rw [List.length_map, List.length_take]; omega
   have w1 : IntKind.i64.wrap ((k : Int) + 1) = ((k + 1 : Nat) : Int) := wadd1 k (by omega)
   refine CW.sound ?_
   simp only [method_specs_simp, seval, hL, hM, obN, obS]
   refine gB_split (fun h => ?_) (fun h => ?_)
   · simp only [decide_eq_true_eq, Int.ofNat_lt] at h
     obtain ⟨id, hid⟩ : ∃ id, ids[k]? = some id := ⟨_, List.getElem?_eq_getElem h⟩
     obtain ⟨s, hs⟩ := Option.isSome_iff_exists.1 (hi id (List.mem_of_getElem? hid))
     have hnx : stsA x.A (ids.take (k + 1)) = stsA x.A (ids.take k) ++ [s] := by unfold stsA; rw [List.take_add_one, hid, Option.toList_some, List.map_append, List.map_singleton, hs]; rfl
     have e1 : (stsA x.A (ids.take k)).map encSS ++ [[V.sl 3 (s.map encEnt)]] = (stsA x.A (ids.take (k + 1))).map encSS := by rw [hnx, List.map_append]; rfl
     have e2 : (stsA x.A (ids.take k)).length + 1 = (stsA x.A (ids.take (k + 1))).length := by rw [hnx, List.length_append]; rfl
     simp only [method_specs_simp, seval, hL, hM, obN, obS, hid, encI]
     refine ⟨by omega, by omega, ?_⟩
     refine lkY.ints fS x.A none rfl (by simp only [method_specs_simp, fS]) ?_
     rw [hs]
     simp only [method_specs_simp, seval, hL, hM, obN, obS, fS]
     refine ⟨by omega, by omega, ?_⟩
     rw [e1, e2]
     refine Again.mk (k + 1) [0, 1, 2, 5] h (Nat.sub_lt_sub_left h (Nat.lt_succ_self _)) ?_
     simp only [mvcgen_simp, method_specs_simp, seval, hL, hM, obN, obS, w1]
   · have hk2 : k = ids.length := by simp only [decide_eq_false_iff_not, Bool.not_true, Int.ofNat_lt] at h; omega
     have htk : List.take (stsA x.A ids).length ((stsA x.A ids).map encSS) = (stsA x.A ids).map encSS := List.take_of_length_le (by rw [List.length_map]; exact Nat.le_refl _)
     rw [hk2, List.take_of_length_le (Nat.le_refl _)]
     refine SW.freeze [3] ?_
     simp only [mvcgen_simp, method_specs_simp, seval, hL, hM, obN, obS, convs_r8j, conv_junkj, htk]
     refine CW.sound ?_
     simp only [method_specs_simp, seval, hL, hM, obN, obS]
     refine LResY.mk [0, 1, 2] ?_
     rw [conv_mapL (q := 0) rfl, conv_mapL (q := 1) rfl, conv_mapL (q := 2) rfl]
     simp only [mvcgen_simp, method_specs_simp, seval, hL, hM, obN, obS, htk]
end
def codeH (g : Gr) (s : List Ent) (e : Ev) : Int := if allowedE g s e == 0 && (e.kind == 8 && !aheadE g e.key e) then 6 else allowedE g s e
def behH (g : Gr) (s : List Ent) (e : Ev) : List Ent := if codeH g s e == 0 && decide (e.kind ≤ 6) then putI s (entE e) else s
def addH (g : Gr) (x : Hs) (e : Ev) : Hs :=
 ⟨x.D, putK x.B e.id (some (resI g x.D (stsA x.A e.prev))), putK x.A e.id (some (behH g (resI g x.D (stsA x.A e.prev)) e)), putK x.R e.id (codeH g (resI g x.D (stsA x.A e.prev)) e)⟩
theorem stepR_ok {g : Gr} : ∀ (L : List Ev) {u : List Ent}, u.Pairwise ltE → (L.foldl (stepR g) u).Pairwise ltE ∧ (L.foldl (stepR g) u).length ≤ u.length + L.length
 | [], u, h => ⟨h, Nat.le_refl _⟩
 | e :: L, u, h => by
   have h1 : (stepR g u e).Pairwise ltE ∧ (stepR g u e).length ≤ u.length + 1 := by
     unfold stepR
     split
     · exact ⟨(put_same u (entE e) h).2, putI_len u (entE e)⟩
     · exact ⟨h, Nat.le_succ _⟩
   obtain ⟨h2, h3⟩ := stepR_ok L h1.1
   refine ⟨h2, ?_⟩
   simp only [List.foldl_cons, List.length_cons]
   omega
theorem resI_ok {g : Gr} {D : List (Int × Int)} {l : List (List Ent)} (hl : SL g l) : (resI g D l).Pairwise ltE ∧ (resI g D l).length ≤ 40000 := by
 have hos : (com l).Pairwise ltE ∧ (com l).length ≤ 400 := by
   cases l with
   | nil => exact ⟨List.Pairwise.nil, Nat.zero_le _⟩
   | cons s l =>
     refine ⟨(hl.srt s List.mem_cons_self).sublist List.filter_sublist, ?_⟩
     have h1 := hl.len s List.mem_cons_self
     have h2 := List.length_filter_le (fun x => !missS (s :: l) x) s
     show (s.filter fun x => !missS (s :: l) x).length ≤ 400
     omega
 obtain ⟨h1, h2⟩ := stepR_ok (g := g) (ordR D (othE g l)) hos.1
 have h3 : (ordR D (othE g l)).length = (othE g l).length := (List.mergeSort_perm _ _).length_eq
 have h4 := oth_bound hl (idsM (com l)) l.length (s := []) (Nat.zero_le _) 0
 rw [preL_all] at h4
 have h5 : (othE g l).length = (othI (idsM (com l)) l.flatten).length := List.length_map _
 refine ⟨h1, ?_⟩
 unfold resI
 omega
theorem hL_le (g : Gr) (x : Hs) : VLe (hL g x) (hV g x) := VLe.fptr (.cons (VLe.refl _) (.cons (VLe.refl _) (.cons (VLe.refl _) (.cons (VLe.refl _) (.cons (VLe.junk _) (.cons (VLe.junk _) (.cons (VLe.junk _) .nil)))))))
section
variable {P : Program} [Is P]
theorem n_add (g : Gr) (x : Hs) (e : Ev) (h : GG g) (he : e ∈ g.events) (hi : ∀ id ∈ e.prev, (lookD x.A id none).isSome = true) (hsl : SL g (stsA x.A e.prev)) : LCon P 78 [hL g x, .agg (encEv e)] (hM x) (.tup []) (hM (addH g x e)) := by
 have h4 := h.four e he
 refine LCon.ofS (n := 86) (rs := []) (Is.fn Tryz.func78) rfl (Is.call Tryz.call78) Tryz.results78 Tryz.ntmps78 ?_
 refine SW.seq (CW.sound ?_)
 simp only [method_specs_simp, seval, hL, hM, obN, obS, encEv]
 refine SW.seq (CW.sound ?_)
 simp only [method_specs_simp, seval, hL, hM, obN, obS, encEv]
 refine clY.live [0, 1, 2] [] (n_states g x e.prev (by omega) hi) ?_ (by simp [hM]) ?_
 · simp only [mvcgen_simp, method_specs_simp, seval, hL, hM, obN, obS, encEv]
 simp only [method_specs_simp, seval, hL, hM, obN, obS, encEv]
 refine clY.conW (xs' := [hV g x, .sl 1 ((stsA x.A e.prev).map encSS)]) (c_resolve g x (stsA x.A e.prev) h hsl) (VLes.cons (hL_le g x) (VLes.same VLes.nil)) ⟨hRow_ref _ g x, of_eq_true (encSS_refs _ _), trivial⟩ ?_
 simp only [method_specs_simp, seval, hL, hM, obN, obS, encEv, oren_mp]
 refine SW.seq (CW.sound ?_)
 simp only [method_specs_simp, seval, hL, hM, obN, obS, encEv]
 refine ⟨by kernel_rfl, ?_⟩
 obtain ⟨hr1, hr2⟩ := resI_ok (g := g) (D := x.D) hsl
 obtain ⟨s, hs⟩ : ∃ s, s = resI g x.D (stsA x.A e.prev) := ⟨_, rfl⟩
 have hadd : addH g x e = ⟨x.D, putK x.B e.id (some s), putK x.A e.id (some (behH g s e)), putK x.R e.id (codeH g s e)⟩ := by rw [hs]; rfl
 rw [hadd]
 rw [← hs] at hr1 hr2 ⊢
 have hGS : GS g s := ⟨h.hx, h.srt, by omega, hr1⟩
 refine clY.con (c_allowed g s e hGS) (by simp only [method_specs_simp, encGr, encEv]) ?_
 simp only [method_specs_simp, seval, hL, hM, obN, obS, encEv]
 refine sw_meet ⟨pad 86 [hL g x, .junk, .junk, .ptr 3 0, .sl 3 (s.map encEnt), .int .i64 (codeH g s e)], [obS x.B, obS x.A, obN x.R, .box true (encEv e)], plc 0 (hM x)⟩ ?_ ?_
 · refine CW.sound ?_
   simp only [method_specs_simp, seval, hL, hM, obN, obS, encEv]
   refine ⟨by kernel_rfl, ?_⟩
   refine gB_split (fun k1 => ?_) (fun k1 => ?_)
   · refine gB_split (fun k2 => ?_) (fun k2 => ?_)
     · refine clY.con (c_ahead g e.key e h he) (by simp only [method_specs_simp, encGr, encEv]) ?_
       cases k3 : aheadE g e.key e with
       | true =>
         have hc : codeH g s e = allowedE g s e := by unfold codeH; rw [k3]; simp
         simp only [method_specs_simp, seval, hL, hM, obN, obS, encEv]
         refine again_meet [0, 1, 2, 3] ?_
         rw [hc]
         simp only [mvcgen_simp, method_specs_simp, seval, hL, hM, obN, obS, encEv]
       | false =>
         have hc : codeH g s e = 6 := by unfold codeH; rw [k3, k1, k2]; rfl
         simp only [method_specs_simp, seval, hL, hM, obN, obS, encEv]
         refine again_meet [0, 1, 2, 3] ?_
         rw [hc]
         simp only [mvcgen_simp, method_specs_simp, seval, hL, hM, obN, obS, encEv]
     · have hc : codeH g s e = allowedE g s e := by unfold codeH; rw [k2]; simp
       refine again_meet [0, 1, 2, 3] ?_
       rw [hc]
       simp only [mvcgen_simp, method_specs_simp, seval, hL, hM, obN, obS, encEv]
   · have hc : codeH g s e = allowedE g s e := by unfold codeH; rw [k1]; simp
     refine again_meet [0, 1, 2, 3] ?_
     rw [hc]
     simp only [mvcgen_simp, method_specs_simp, seval, hL, hM, obN, obS, encEv]
 refine SW.seq (CW.sound ?_)
 simp only [method_specs_simp, seval, hL, hM, obN, obS, encEv]
 refine ⟨by kernel_rfl, ?_⟩
 refine meY.ints fS x.B none rfl (by simp only [method_specs_simp, fS]) ?_
 simp only [method_specs_simp, seval, hL, hM, obN, obS, encEv]
 refine esY.ints fS (putK x.B e.id (lookD x.B e.id none)) (some s) (k := e.id) rfl (posK_putK _ _ _) ?_
 rw [putK_putK]
 simp only [method_specs_simp, seval, hL, hM, obN, obS, encEv]
 refine meY.ints fS x.A none rfl (by simp only [method_specs_simp, fS]) ?_
 simp only [method_specs_simp, seval, hL, hM, obN, obS, encEv]
 refine esY.ints fS (putK x.A e.id (lookD x.A e.id none)) (some s) (k := e.id) rfl (posK_putK _ _ _) ?_
 rw [putK_putK]
 simp only [method_specs_simp, seval, hL, hM, obN, obS, encEv]
 refine meY.ints (V.int .i64) x.R 0 rfl (by simp only [method_specs_simp]) ?_
 simp only [method_specs_simp, seval, hL, hM, obN, obS, encEv]
 refine esY.ints (V.int .i64) (putK x.R e.id (lookD x.R e.id 0)) (codeH g s e) (k := e.id) rfl (posK_putK _ _ _) ?_
 rw [putK_putK]
 simp only [method_specs_simp, seval, hL, hM, obN, obS, encEv]
 refine CW.sound ?_
 simp only [method_specs_simp, seval, hL, hM, obN, obS, encEv]
 have hend : ∀ b : Bool, (codeH g s e == 0 && decide (e.kind ≤ 6)) = b → behH g s e = if b then putI s (entE e) else s := fun b hb => by unfold behH; rw [hb]
 refine gB_split (fun k1 => ?_) (fun k1 => ?_)
 · refine gB_split (fun k2 => ?_) (fun k2 => ?_)
   · have hb := hend true (by rw [k1, k2]; rfl)
     rw [if_pos rfl] at hb
     refine ⟨by kernel_rfl, ?_⟩
     refine clY.con (c_put s (entE e) (by omega)) (by simp only [method_specs_simp, encEnt, entE]) ?_
     simp only [method_specs_simp, seval, hL, hM, obN, obS, encEv]
     refine muY.ints fS (putK x.A e.id (some s)) (some (putI s (entE e))) none rfl (by simp only [method_specs_simp, fS]) ?_
     rw [putK_putK, hb]
     simp only [method_specs_simp, seval, hL, hM, obN, obS, encEv]
     refine LResY.mk [0, 1, 2] ?_
     simp only [mvcgen_simp, method_specs_simp, seval, hL, hM, obN, obS, encEv]
   · have hb := hend false (by rw [k1, k2]; rfl)
     rw [if_neg (by decide)] at hb
     rw [hb]
     refine LResY.mk [0, 1, 2] ?_
     simp only [mvcgen_simp, method_specs_simp, seval, hL, hM, obN, obS, encEv]
 · have hb := hend false (by rw [k1]; rfl)
   rw [if_neg (by decide)] at hb
   rw [hb]
   refine LResY.mk [0, 1, 2] ?_
   simp only [mvcgen_simp, method_specs_simp, seval, hL, hM, obN, obS, encEv]
end
end Go.Proofs.YtdldgbkdcpdbeaaGreat
end

section
namespace Go.Proofs.YtdldgbkdcpdbeaaGreat
open Go.Pm
open Go.Gm (Ev Gr LtD ltD StD srtD)
theorem lookD_ne {β : Type} : ∀ (l : List (Int × β)) (k k' : Int) (v d : β), k' ≠ k → lookD (putK l k v) k' d = lookD l k' d
 | [], k, k', v, d, h => by simp [putK, lookD, h]
 | p :: l, k, k', v, d, h => by
   simp only [putK]
   cases hb : k == p.1 with
   | true =>
     have e : k = p.1 := by simpa using hb
     have h2 : (k' == p.1) = false := by rw [← e]; simpa using h
     simp only [if_true, lookD, List.find?_cons, h2]
   | false =>
     have ih := lookD_ne l k k' v d h
     simp only [lookD] at ih
     simp only [Bool.false_eq_true, if_false, lookD, List.find?_cons]
     cases k' == p.1
     · exact ih
     · rfl
theorem lookD_put {β : Type} (l : List (Int × β)) (k k' : Int) (v d : β) : lookD (putK l k v) k' d = if k' = k then v else lookD l k' d := by
 split
 · rename_i h; rw [h]; exact lookD_putK l k v d
 · rename_i h; exact lookD_ne l k k' v d h
theorem putI_mem {xs : List Ent} {x y : Ent} (h : y ∈ putI xs x) : y ∈ xs ∨ y = x := by
 unfold putI at h
 split at h
 · split at h
   · rcases List.mem_append.1 h with h | h
     · exact .inl (List.mem_of_mem_take h)
     · exact .inl (List.mem_of_mem_drop h)
   · exact .inl h
 · split at h
   · exact List.mem_or_eq_of_mem_set h
   · rcases List.mem_append.1 h with h | h
     · exact .inl (List.mem_of_mem_take h)
     · rcases List.mem_cons.1 h with h | h
       · exact .inr h
       · exact .inl (List.mem_of_mem_drop h)
theorem entOf_iff {g : Gr} {x : Ent} (h : GG g) : entOf g x = true ↔ ∃ e ∈ g.events, entE e = x := by
 unfold entOf
 cases hh : atE g.events x.id with
 | none =>
   simp only [Option.isSome_none, Bool.false_and, Bool.false_eq_true, false_iff, not_exists, not_and]
   rintro e he rfl
   have := at_mem h.srt he
   rw [show (entE e).id = e.id from rfl] at hh
   rw [hh] at this; cases this
 | some e =>
   have h1 := List.mem_of_find?_eq_some hh
   have h2 : e.id = x.id := by have := List.find?_some hh; simpa using this
   simp only [Option.isSome_some, Bool.true_and, Option.getD_some, Bool.and_eq_true, beq_iff_eq]
   constructor
   · rintro ⟨h3, h4⟩
     refine ⟨e, h1, ?_⟩
     obtain ⟨a, b, c⟩ := x
     simp only at h2 h3 h4
     unfold entE
     rw [h2, h3, h4]
   · rintro ⟨e', he', rfl⟩
     have h3 := at_mem h.srt he'
     rw [show (entE e').id = e'.id from rfl, h3] at hh
     injection hh with hh
     subst hh
     exact ⟨rfl, rfl⟩
structure SG (g : Gr) (s : List Ent) : Prop where
 srt : s.Pairwise ltE
 has : ∀ x ∈ s, entOf g x = true
theorem ltE_ne {x y : Ent} (h : ltE x y) : x ≠ y := fun e => by subst e; unfold ltE at h; omega
theorem SG.ids {g : Gr} {s : List Ent} (h : GG g) (hs : SG g s) : (s.map (·.id)).Nodup := by
 refine List.pairwise_map.2 ?_
 refine List.Pairwise.imp_of_mem (fun {x y} hx hy hlt => ?_) hs.srt
 intro e
 obtain ⟨e1, he1, h1⟩ := (entOf_iff h).1 (hs.has x hx)
 obtain ⟨e2, he2, h2⟩ := (entOf_iff h).1 (hs.has y hy)
 have hid : e1.id = e2.id := by
   have a1 : (entE e1).id = x.id := by rw [h1]
   have a2 : (entE e2).id = y.id := by rw [h2]
   exact a1.trans (e.trans a2.symm)
 have := at_mem h.srt he1
 rw [hid, at_mem h.srt he2] at this
 injection this with this
 subst this
 exact ltE_ne hlt (h1.symm.trans h2)
theorem SG.len {g : Gr} {s : List Ent} (h : GG g) (hs : SG g s) : s.length ≤ 60 := by
 have h1 := nodup_len (SG.ids h hs) (m := g.events.map (·.id)) (fun z hz => by
   obtain ⟨x, hx, rfl⟩ := List.mem_map.1 hz
   obtain ⟨e, he, h1⟩ := (entOf_iff h).1 (hs.has x hx)
   exact List.mem_map.2 ⟨e, he, by rw [← h1]; rfl⟩)
 rw [List.length_map, List.length_map] at h1
 have := h.n
 omega
theorem SG.nil (g : Gr) : SG g [] := ⟨List.Pairwise.nil, fun x hx => by cases hx⟩
theorem SG.put {g : Gr} {s : List Ent} (h : GG g) (hs : SG g s) {e : Ev} (he : e ∈ g.events) : SG g (putI s (entE e)) :=
 ⟨(put_same s (entE e) hs.srt).2, fun y hy => (putI_mem hy).elim (hs.has y) fun e1 => by rw [e1]; exact (entOf_iff h).2 ⟨e, he, rfl⟩⟩
theorem SL.of {g : Gr} {l : List (List Ent)} (h : GG g) (hn : l.length ≤ 60) (hs : ∀ s ∈ l, SG g s) : SL g l :=
 ⟨hn, fun s hm => Nat.le_trans (SG.len h (hs s hm)) (by omega), fun s hm => (hs s hm).srt, fun s hm => (hs s hm).has⟩
theorem othE_in {g : Gr} {l : List (List Ent)} (hl : ∀ s ∈ l, ∀ x ∈ s, entOf g x = true) : ∀ e ∈ othE g l, e ∈ g.events := fun e he => by
 obtain ⟨z, hz, rfl⟩ := List.mem_map.1 he
 obtain ⟨_, x, hx, rfl⟩ := (othI_spec l.flatten (idsM (com l))).2 z hz
 obtain ⟨s, hs, hxs⟩ := List.mem_flatten.1 hx
 have h1 := hl s hs x hxs
 unfold evOf
 unfold entOf at h1
 cases hh : atE g.events x.id with
 | none => rw [hh] at h1; simp at h1
 | some e => exact List.mem_of_find?_eq_some hh
theorem foldR_SG {g : Gr} (h : GG g) : ∀ (L : List Ev) {u : List Ent}, (∀ e ∈ L, e ∈ g.events) → SG g u → SG g (L.foldl (stepR g) u)
 | [], u, _, hu => hu
 | e :: L, u, hL, hu => by
   rw [List.foldl_cons]
   refine foldR_SG h L (fun e he => hL e (List.mem_cons_of_mem _ he)) ?_
   unfold stepR
   split
   · exact SG.put h hu (hL e List.mem_cons_self)
   · exact hu
theorem resI_SG {g : Gr} {D : List (Int × Int)} {l : List (List Ent)} (h : GG g) (hs : ∀ s ∈ l, SG g s) : SG g (resI g D l) := by
 have hc : SG g (com l) := by
   cases l with
   | nil => exact SG.nil g
   | cons s l =>
     have h1 := hs s List.mem_cons_self
     exact ⟨h1.srt.sublist List.filter_sublist, fun x hx => h1.has x (List.mem_filter.1 hx).1⟩
 exact foldR_SG h _ (fun e he => othE_in (fun s hm => (hs s hm).has) e ((List.mergeSort_perm _ _).subset he)) hc
def evsO (g : Gr) : List Ev := (orderE g.events).map (evOf g)
def hsN (g : Gr) (D : List (Int × Int)) (L : List Ev) : Hs := L.foldl (addH g) ⟨D, [], [], []⟩
theorem hsN_snoc (g : Gr) (D : List (Int × Int)) (L : List Ev) (e : Ev) : hsN g D (L ++ [e]) = addH g (hsN g D L) e := by unfold hsN; rw [List.foldl_append]; rfl
theorem hsN_D (g : Gr) (D : List (Int × Int)) : ∀ (L : List Ev) (x : Hs), (L.foldl (addH g) x).D = x.D
 | [], x => rfl
 | e :: L, x => by rw [List.foldl_cons, hsN_D g D L]; rfl
theorem order_place {g : Gr} (h : GG g) {i : Nat} {id : Int} (hi : (orderE g.events)[i]? = some id) : ∃ (k : Nat) (e : Ev), (srtD (dpl (Gm.depthsE g.events)) (rangeI g.events.length))[i]? = some (k : Int) ∧ g.events[k]? = some e ∧ e.id = id ∧ evOf g id = e ∧ e ∈ g.events := by
 unfold orderE at hi
 rw [List.getElem?_map] at hi
 obtain ⟨x, hx, rfl⟩ := Option.map_eq_some_iff.1 hi
 obtain ⟨k, hk, rfl⟩ := rangeI_mem.1 ((Gm.srtD_perm _ _).subset (List.mem_of_getElem? hx))
 obtain ⟨e, he⟩ : ∃ e, g.events[k]? = some e := ⟨_, List.getElem?_eq_getElem hk⟩
 have hid : idAtP g.events (k : Int) = e.id := by unfold idAtP; rw [Int.toNat_natCast, he]
 have hm := List.mem_of_getElem? he
 refine ⟨k, e, hx, he, hid.symm, ?_, hm⟩
 rw [hid]
 unfold evOf
 rw [at_mem h.srt hm]; rfl
theorem evsO_len (g : Gr) : (evsO g).length = g.events.length := by unfold evsO; rw [List.length_map, orderE_len]
theorem evsO_all {g : Gr} (h : GG g) : ∀ e ∈ g.events, e ∈ evsO g := fun e he => by
 obtain ⟨k, hk⟩ := List.getElem?_of_mem he
 have hkl := (List.getElem?_eq_some_iff.1 hk).1
 have h1 : (k : Int) ∈ srtD (dpl (Gm.depthsE g.events)) (rangeI g.events.length) := (Gm.srtD_perm _ _).mem_iff.2 (rangeI_mem.2 ⟨k, hkl, rfl⟩)
 refine List.mem_map.2 ⟨e.id, List.mem_map.2 ⟨(k : Int), h1, ?_⟩, ?_⟩
 · unfold idAtP; rw [Int.toNat_natCast, hk]
 · unfold evOf; rw [at_mem h.srt he]; rfl
theorem order_prev {g : Gr} (h : GG g) {i : Nat} {e : Ev} (hi : (evsO g)[i]? = some e) : ∀ p ∈ e.prev, p ∈ (orderE g.events).take i := by
 intro p hp
 unfold evsO at hi
 rw [List.getElem?_map] at hi
 obtain ⟨id, hid, he⟩ := Option.map_eq_some_iff.1 hi
 obtain ⟨k, e', hk, hke, _, h1, h2⟩ := order_place h hid
 rw [h1] at he
 subst he
 have hin := h.ain e' h2
 rw [Gm.allIn, List.all_eq_true] at hin
 have hpi := hin p hp
 obtain ⟨ep, hep, hepi⟩ := Gm.fid_get hpi
 have hpl := Gm.fid_lt hpi
 have hdl := (Gm.depths_ok g.events).len
 have hkl := (List.getElem?_eq_some_iff.1 hke).1
 have hdk : 0 < (Gm.depthsE g.events).getD k 0 := by
   rw [List.getD_eq_getElem?_getD, List.getElem?_eq_getElem (by omega)]
   have := h.pos _ (List.getElem_mem (l := Gm.depthsE g.events) (n := k) (by omega))
   simp only [Option.getD_some]
   omega
 obtain ⟨_, hlt⟩ := Gm.depths_ltP g.events k e' hke hdk p hp
 have hm : ((Gm.fidE g.events p : Nat) : Int) ∈ srtD (dpl (Gm.depthsE g.events)) (rangeI g.events.length) := (Gm.srtD_perm _ _).mem_iff.2 (rangeI_mem.2 ⟨_, hpl, rfl⟩)
 obtain ⟨j, hj⟩ := List.getElem?_of_mem hm
 have hLt : LtD (dpl (Gm.depthsE g.events)) ((Gm.fidE g.events p : Nat) : Int) (k : Int) := by
   rw [Gm.ltD_iff]
   refine .inl ?_
   unfold dpl
   rw [Int.toNat_natCast, Int.toNat_natCast]
   exact hlt
 have hji : j < i := by
   rcases Nat.lt_trichotomy j i with h3 | h3 | h3
   · exact h3
   · exfalso
     subst h3
     rw [hk] at hj
     injection hj with hj
     rw [hj] at hLt
     exact (Gm.ltD_str _).irr _ hLt
   · exfalso
     have h4 := Gm.pw_get (Gm.srtD_sorted (Gm.StD.nodup (rangeI_std (dpl (Gm.depthsE g.events)) g.events.length))) h3 hk hj
     exact (Gm.ltD_str _).irr _ ((Gm.ltD_str _).tr _ _ _ hLt h4)
 refine List.mem_of_getElem? (i := j) ?_
 rw [List.getElem?_take_of_lt hji]
 unfold orderE
 rw [List.getElem?_map, hj]
 simp only [Option.map_some, idAtP, Int.toNat_natCast, hep, hepi]
structure HI (g : Gr) (ids : List Int) (x : Hs) : Prop where
 A : ∀ id ∈ ids, ∃ s, lookD x.A id none = some s ∧ SG g s
 B : ∀ id ∈ ids, ∃ s, lookD x.B id none = some s ∧ SG g s
theorem HI.sts {g : Gr} {ids : List Int} {x : Hs} (h : HI g ids x) {l : List Int} (hl : ∀ p ∈ l, p ∈ ids) : (∀ p ∈ l, (lookD x.A p none).isSome = true) ∧ ∀ s ∈ stsA x.A l, SG g s := by
 refine ⟨fun p hp => ?_, fun s hs => ?_⟩
 · obtain ⟨s, h1, _⟩ := h.A p (hl p hp)
   rw [h1]; rfl
 · obtain ⟨p, hp, rfl⟩ := List.mem_map.1 hs
   obtain ⟨s, h1, h2⟩ := h.A p (hl p hp)
   rw [h1]; exact h2
theorem stsA_len (A : List (Int × Option (List Ent))) (l : List Int) : (stsA A l).length = l.length := List.length_map _
theorem HI.add {g : Gr} {ids : List Int} {x : Hs} (hg : GG g) (h : HI g ids x) {e : Ev} (he : e ∈ g.events) (hp : ∀ p ∈ e.prev, p ∈ ids) : HI g (ids ++ [e.id]) (addH g x e) := by
 obtain ⟨h1, h2⟩ := h.sts hp
 have hr : SG g (resI g x.D (stsA x.A e.prev)) := resI_SG hg h2
 have hb : SG g (behH g (resI g x.D (stsA x.A e.prev)) e) := by
   unfold behH
   split
   · exact SG.put hg hr he
   · exact hr
 refine ⟨fun id hid => ?_, fun id hid => ?_⟩
 · show ∃ s, lookD (putK x.A e.id (some (behH g (resI g x.D (stsA x.A e.prev)) e))) id none = some s ∧ SG g s
   rw [lookD_put]
   split
   · exact ⟨_, rfl, hb⟩
   · rename_i hne
     exact h.A id ((List.mem_append.1 hid).resolve_right (by simpa using hne))
 · show ∃ s, lookD (putK x.B e.id (some (resI g x.D (stsA x.A e.prev)))) id none = some s ∧ SG g s
   rw [lookD_put]
   split
   · exact ⟨_, rfl, hr⟩
   · rename_i hne
     exact h.B id ((List.mem_append.1 hid).resolve_right (by simpa using hne))
theorem HI.at_ {g : Gr} (hg : GG g) (D : List (Int × Int)) : ∀ i, i ≤ g.events.length → HI g ((orderE g.events).take i) (hsN g D ((evsO g).take i))
 | 0, _ => ⟨fun id h => by simp at h, fun id h => by simp at h⟩
 | i + 1, hi => by
   have ih := HI.at_ hg D i (by omega)
   obtain ⟨id, hid⟩ : ∃ id, (orderE g.events)[i]? = some id := ⟨_, List.getElem?_eq_getElem (by rw [orderE_len]; omega)⟩
   obtain ⟨k, e, hk, hke, h0, h1, h2⟩ := order_place hg hid
   have hev : (evsO g)[i]? = some e := by unfold evsO; rw [List.getElem?_map, hid, Option.map_some, h1]
   rw [List.take_add_one, List.take_add_one, hid, hev, Option.toList_some, Option.toList_some, hsN_snoc, ← h0]
   exact ih.add hg h2 (order_prev hg hev)
end Go.Proofs.YtdldgbkdcpdbeaaGreat
end

section
namespace Go.Proofs.YtdldgbkdcpdbeaaGreat
open Go.Pm
open Go.Gm (Ev Gr)
def deepV : Nat → List Ob → V → V
 | 0, _, x => x
 | n + 1, m, .fptr cs off => .fptr (cs.map (deepV n m)) off
 | _ + 1, m, x => conv m x
theorem RC_map {c : Cx} {b : Nat} {f : V → V} (hf : ∀ x v, RV c x v → RV c (f x) v) : ∀ {cs : List V} {o : Nat}, RC c b o cs → RC c b o (cs.map f)
 | [], _, _ => trivial
 | _ :: _, _, ⟨⟨u, e, k⟩, k2⟩ => ⟨⟨u, e, hf _ u k⟩, RC_map hf k2⟩
theorem deepV_sound {w : World} {Zo : Nat → Prop} {m : List Ob} {β : List Lc} (M : Mem w Zo m β) : ∀ (n : Nat) (x : V) (v : Value), RV (cx w Zo m β) x v → RV (cx w Zo m β) (deepV n m x) v
 | 0, x, v, h => h
 | n + 1, x, v, h => by
   have hc : ∀ y : V, RV (cx w Zo m β) y v → RV (cx w Zo m β) (conv m y) v := fun y hy => by
     obtain ⟨u, us, e, k, _⟩ := convs_sound M [y] [v] ⟨v, [], rfl, hy, rfl⟩
     injection e with e1 _
     rw [e1]; exact k
   cases x <;> first | exact hc _ h | skip
   obtain ⟨b, e, hf, k⟩ := h
   exact ⟨b, e, hf, RC_map (deepV_sound M n) k⟩
theorem RVs_map {c : Cx} {f : V → V} (hf : ∀ x v, RV c x v → RV c (f x) v) : ∀ {xs : List V} {us : List Value}, RVs c xs us → RVs c (xs.map f) us
 | [], _, h => h
 | _ :: _, _, ⟨u, us', e, h1, h2⟩ => ⟨u, us', e, hf _ u h1, RVs_map hf h2⟩
theorem sw_deep {P : Program} {c : Code} {st : St} {Q : Exit → St → Prop} (n : Nat) (h : Go.Pm.SW P c ⟨st.t.map (deepV n st.m), st.m, st.g⟩ Q) : Go.Pm.SW P c st Q := by
 intro w0 E Zo gh a w ⟨β, M, h1, h2, h3, h4, h5⟩
 exact h w0 E Zo gh a w ⟨β, M, h1, h2, h3, RVs_map (deepV_sound M n) h4, h5⟩
def mpFr (m : List Ob) (q : Nat) : Option (List V × List V) := match m[q]? with
 | some (.mp false ks vs) => some (ks, vs)
 | _ => none
@[mvcgen_simp, method_specs_simp] theorem mpFr_f {ks vs : List V} {m : List Ob} : mpFr (.mp false ks vs :: m) 0 = some (ks, vs) := nr rfl
@[mvcgen_simp, method_specs_simp] theorem mpFr_t {ks vs : List V} {m : List Ob} : mpFr (.mp true ks vs :: m) 0 = none := nr rfl
@[mvcgen_simp, method_specs_simp] theorem mpFr_s {ob : Ob} {m : List Ob} {q : Nat} : mpFr (ob :: m) (q + 1) = mpFr m q := by simp [mpFr]
def convM (q : Nat) : Option (List V × List V) → V
 | some p => .fmap p.1 p.2
 | none => .map q
@[mvcgen_simp, method_specs_simp] theorem convM_s {q : Nat} {ks vs : List V} : convM q (some (ks, vs)) = .fmap ks vs := nr rfl
@[mvcgen_simp, method_specs_simp] theorem convM_n {q : Nat} : convM q none = .map q := nr rfl
@[mvcgen_simp, method_specs_simp] theorem conv_mapF {m : List Ob} {q : Nat} : conv m (.map q) = convM q (mpFr m q) := by
 simp only [conv, mpFr]
 split <;> rename_i h
 · rw [h]; rfl
 · cases hm : m[q]? with
   | none => rfl
   | some ob =>
     cases ob with
     | mp lv ks vs =>
       cases lv
       · exact absurd hm (h _ _)
       · rfl
     | _ => rfl
@[mvcgen_simp, method_specs_simp] theorem still_mp {lv : Bool} {ks vs : List V} : (Ob.mp lv ks vs).still = .mp false ks vs := nr rfl
section
variable {n : Nat} {m : List Ob}
@[mvcgen_simp, method_specs_simp] theorem deep_fptr {cs : List V} {off : Nat} : deepV (n + 1) m (.fptr cs off) = .fptr (cs.map (deepV n m)) off := nr rfl
@[mvcgen_simp, method_specs_simp] theorem deep_junk : deepV (n + 1) m .junk = .junk := nr rfl
@[mvcgen_simp, method_specs_simp] theorem deep_int {k : IntKind} {x : Int} : deepV (n + 1) m (.int k x) = .int k x := nr rfl
@[mvcgen_simp, method_specs_simp] theorem deep_bool {b : Bool} : deepV (n + 1) m (.bool b) = .bool b := nr rfl
@[mvcgen_simp, method_specs_simp] theorem deep_sl {sz : Nat} {xs : List (List V)} : deepV (n + 1) m (.sl sz xs) = .sl sz xs := nr rfl
@[mvcgen_simp, method_specs_simp] theorem deep_map {q : Nat} : deepV (n + 1) m (.map q) = conv m (.map q) := nr rfl
@[mvcgen_simp, method_specs_simp] theorem deep_fmap {ks vs : List V} : deepV (n + 1) m (.fmap ks vs) = .fmap ks vs := nr rfl
@[mvcgen_simp, method_specs_simp] theorem deep_ptr {q o : Nat} : deepV (n + 1) m (.ptr q o) = conv m (.ptr q o) := nr rfl
@[mvcgen_simp, method_specs_simp] theorem deep_ar {q o l : Nat} : deepV (n + 1) m (.ar q o l) = conv m (.ar q o l) := nr rfl
end
theorem mpI_nil1 {β : Type} {kd : IntKind} {f : β → V} : (mpI kd f []).1 = [] := nr rfl
theorem mpI_nil2 {β : Type} {kd : IntKind} {f : β → V} : (mpI kd f []).2 = [] := nr rfl
theorem map_r8 {f : V → V} {a b c d e f' g h : V} {l : List V} : List.map f (r8 a b c d e f' g h l) = r8 (f a) (f b) (f c) (f d) (f e) (f f') (f g) (f h) (List.map f l) := rfl
def hF (g : Gr) (x : Hs) : V := .fptr [.int .i64 g.room, .sl 9 (g.events.map encEv), .sl 9 (g.parked.map encEv), .fmap (mpI .i64 (V.int .i64) x.D).1 (mpI .i64 (V.int .i64) x.D).2, .fmap (mpI .i64 fS x.B).1 (mpI .i64 fS x.B).2, .fmap (mpI .i64 fS x.A).1 (mpI .i64 fS x.A).2, .fmap (mpI .i64 (V.int .i64) x.R).1 (mpI .i64 (V.int .i64) x.R).2] 0
theorem hF_ref (ok : Nat → Prop) (g : Gr) (x : Hs) : Ref ok (hF g x) := by
 simp only [hF, Refs, Ref, encEv_refs, mpI_refs1, mpN_refs, mpS_refs, and_self]
def depM (evs : List Ev) (dl : List Int) (i : Nat) : List (Int × Int) := ((evs.zip dl).take i).foldl (fun m p => putK m p.1.id p.2) []
section
variable {P : Program} [Is P]
theorem c_order (g : Gr) (h : GG g) : Con P 76 [.agg (encGr g)] (.sl 1 ((orderE g.events).map encI)) := by
 have h1 := (n_order (P := P) g h.ok.1 h.srt h.ain).con (by rw [← orderE_len g.events]; simp only [method_specs_simp, List.take_of_length_le, List.length_map, Nat.le_refl])
 have e : convR [Ob.arr true 1 ((orderE g.events).map encI)] (.ar 0 0 g.events.length) = .sl 1 ((orderE g.events).map encI) := by
   rw [← orderE_len g.events]
   simp only [method_specs_simp, List.take_of_length_le, List.length_map, Nat.le_refl]
 rwa [e] at h1
theorem c_newHistory (g : Gr) (h : GG g) : Con P 42 [.agg (encGr g)] (hF g (hsN g (depM g.events (Gm.depthsE g.events) g.events.length) (evsO g))) := by
 refine Con.ofS (n := 61) (rs := [.tmp 2]) (Is.fn Tryz.func42) rfl (Is.call Tryz.call42) Tryz.results42 Tryz.ntmps42 (hF_ref _ g _) ?_
 refine SW.seq (CW.sound ?_)
 simp only [method_specs_simp, seval, encGr]
 refine SW.seq (CW.sound ?_)
 simp only [method_specs_simp, seval, encGr]
 refine SW.seq (CW.sound ?_)
 simp only [method_specs_simp, seval, encGr]
 refine clY.con (c_depths g h.ok.1 h.srt h.ain) (by simp only [method_specs_simp, encGr]) ?_
 obtain ⟨dl, hdl⟩ : ∃ dl, dl = Gm.depthsE g.events := ⟨_, rfl⟩
 have hdn : dl.length = g.events.length := by rw [hdl]; exact (Gm.depths_ok g.events).len
 rw [← hdl]
 simp only [method_specs_simp, seval, encGr]
 have h60 := h.n
 refine SW.seq (CW.sound ?_)
 simp only [method_specs_simp, seval, encGr]
 refine SW.while (A := Nat) (fun i => ⟨pad 61 [.junk, .ptr 0 0, .junk, .ptr 5 0, .sl 1 (dl.map encI), .junk, .junk, .junk, .junk, .junk, .junk, .junk, .junk, .junk, .junk, .junk, .junk, .junk, .junk, .junk, .junk, .junk, .junk, .junk, .junk, .sl 9 (g.events.map encEv), .int .i64 g.events.length, .int .i64 i], [.box true (encGr g), obN (depM g.events dl i), .mp true [] [], .mp true [] [], .mp true [] [], .box true [.int .i64 g.room, .sl 9 (g.events.map encEv), .sl 9 (g.parked.map encEv), .map 1, .map 2, .map 3, .map 4]], []⟩) (fun i => g.events.length - i) (fun i => i ≤ g.events.length) 0 [0, 1, 2, 3, 4, 5] (Nat.zero_le _) ?_ ?_
 · have h0 : obN (depM g.events dl 0) = .mp true [] [] := rfl
   rw [h0]
   simp only [mvcgen_simp, method_specs_simp, seval, encGr]
 · intro i hi
   have w1 : IntKind.i64.wrap ((i : Int) + 1) = ((i + 1 : Nat) : Int) := wadd1 i (by omega)
   refine CW.sound ?_
   simp only [method_specs_simp, seval, encGr, obN]
   refine gB_split (fun h1 => ?_) (fun h1 => ?_)
   · simp only [decide_eq_true_eq, Int.ofNat_lt] at h1
     obtain ⟨e, he⟩ : ∃ e, g.events[i]? = some e := ⟨_, List.getElem?_eq_getElem h1⟩
     obtain ⟨d, hd⟩ : ∃ d, dl[i]? = some d := ⟨_, List.getElem?_eq_getElem (by omega)⟩
     have hnx : depM g.events dl (i + 1) = putK (depM g.events dl i) e.id d := by
       have hz : (g.events.zip dl)[i]? = some (e, d) := by rw [List.getElem?_zip_eq_some]; exact ⟨he, hd⟩
       unfold depM
       rw [List.take_add_one, hz, Option.toList_some, List.foldl_append]; rfl
     simp only [method_specs_simp, seval, encGr, he, encEv]
     refine ⟨by omega, by omega, by kernel_rfl, ?_⟩
     simp only [method_specs_simp, seval, encGr, hd, encI]
     refine ⟨by omega, by omega, ?_⟩
     refine muY.ints (V.int .i64) (depM g.events dl i) d 0 rfl (by simp only [method_specs_simp]) ?_
     rw [← hnx]
     simp only [method_specs_simp, seval, encGr]
     refine Again.mk (i + 1) [0, 1, 2, 3, 4, 5] h1 (Nat.sub_lt_sub_left h1 (Nat.lt_succ_self _)) ?_
     simp only [mvcgen_simp, method_specs_simp, seval, encGr, w1, obN]
   · have hi2 : i = g.events.length := by simp only [decide_eq_false_iff_not, Bool.not_true, Int.ofNat_lt] at h1; omega
     obtain ⟨D, hD⟩ : ∃ D, D = depM g.events dl i := ⟨_, rfl⟩
     rw [← hD]
     refine SW.freeze [0, 1, 5] ?_
     simp only [mvcgen_simp, method_specs_simp, seval, encGr, convs_r8j, conv_junkj]
     refine sw_deep 2 ?_
     simp only [mvcgen_simp, method_specs_simp, seval, encGr, map_r8, List.map_cons, List.map_nil]
     refine SW.wk [2, 3, 4] (st' := ⟨pad 61 [.junk, .fptr (encGr g) 0, .junk, hL g ⟨D, [], [], []⟩], hM ⟨D, [], [], []⟩, []⟩) ?_ ?_
     · simp only [mvcgen_simp, method_specs_simp, seval, encGr, hL, hM, obN, obS, mpI_nil1, mpI_nil2]
     refine SW.seq (CW.sound ?_)
     simp only [method_specs_simp, seval, encGr]
     refine clY.con (c_order g h) (by simp only [method_specs_simp, encGr]) ?_
     simp only [method_specs_simp, seval, encGr]
     refine SW.while (A := Nat) (fun j => ⟨pad 61 [.junk, .fptr (encGr g) 0, .junk, hL g (hsN g D ((evsO g).take j)), .junk, .junk, .junk, .junk, .junk, .junk, .junk, .junk, .junk, .junk, .junk, .junk, .junk, .junk, .junk, .junk, .junk, .junk, .junk, .junk, .junk, .junk, .junk, .junk, .junk, .junk, .junk, .junk, .junk, .junk, .junk, .junk, .junk, .junk, .junk, .junk, .junk, .junk, .junk, .junk, .sl 1 ((orderE g.events).map encI), .int .i64 g.events.length, .int .i64 j], hM (hsN g D ((evsO g).take j)), []⟩) (fun j => g.events.length - j) (fun j => j ≤ g.events.length) 0 [0, 1, 2] (Nat.zero_le _) ?_ ?_
     · have h0 : hsN g D ((evsO g).take 0) = ⟨D, [], [], []⟩ := rfl
       rw [h0]
       simp only [mvcgen_simp, method_specs_simp, seval, encGr, hL, hM, obN, obS, mpI_nil1, mpI_nil2, orderE_len]
     · intro j hj
       have w2 : IntKind.i64.wrap ((j : Int) + 1) = ((j + 1 : Nat) : Int) := wadd1 j (by omega)
       refine CW.sound ?_
       simp only [method_specs_simp, seval, encGr]
       refine gB_split (fun h2 => ?_) (fun h2 => ?_)
       · simp only [decide_eq_true_eq, Int.ofNat_lt] at h2
         obtain ⟨id, hid⟩ : ∃ id, (orderE g.events)[j]? = some id := ⟨_, List.getElem?_eq_getElem (by rw [orderE_len]; exact h2)⟩
         obtain ⟨k, e, hk, hke, h3, h4, h5⟩ := order_place h hid
         have hev : (evsO g)[j]? = some e := by unfold evsO; rw [List.getElem?_map, hid, Option.map_some, h4]
         have hat : atE g.events id = some e := by rw [← h3]; exact at_mem h.srt h5
         have hnx : hsN g D ((evsO g).take (j + 1)) = addH g (hsN g D ((evsO g).take j)) e := by rw [List.take_add_one, hev, Option.toList_some, hsN_snoc]
         obtain ⟨hi1, hi2⟩ := (HI.at_ h D j hj).sts (order_prev h hev)
         have hfour := h.four e h5
         have hsl : SL g (stsA (hsN g D ((evsO g).take j)).A e.prev) := SL.of h (by rw [stsA_len]; omega) hi2
         obtain ⟨x, hx⟩ : ∃ x, x = hsN g D ((evsO g).take j) := ⟨_, rfl⟩
         rw [← hx] at hi1 hsl hnx ⊢
         simp only [method_specs_simp, seval, encGr, hL, hM, obN, obS, encEv, hid, encI, orderE_len]
         refine ⟨by omega, by omega, ?_⟩
         refine clY.con (c_at g id h.hx h.srt) (by simp only [method_specs_simp, encGr]) ?_
         rw [hat]
         simp only [method_specs_simp, seval, encGr, hL, hM, obN, obS, encEv, Option.getD_some, Option.isSome_some]
         refine clY.live [0, 1, 2] [] (n_add g x e h h5 hi1 hsl) ?_ (by simp [hM]) ?_
         · simp only [mvcgen_simp, method_specs_simp, seval, encGr, hL, hM, obN, obS, encEv]
         simp only [method_specs_simp, seval, encGr, hL, hM, obN, obS, encEv]
         refine Again.mk (j + 1) [0, 1, 2] h2 (Nat.sub_lt_sub_left h2 (Nat.lt_succ_self _)) ?_
         rw [hnx]
         have hD2 : (addH g x e).D = x.D := rfl
         simp only [mvcgen_simp, method_specs_simp, seval, encGr, hL, hM, obN, obS, encEv, w2, hD2]
       · have hj2 : j = g.events.length := by simp only [decide_eq_false_iff_not, Bool.not_true, Int.ofNat_lt] at h2; omega
         have hev : (evsO g).take j = evsO g := List.take_of_length_le (by rw [evsO_len, hj2]; exact Nat.le_refl _)
         rw [hev]
         obtain ⟨x, hx⟩ : ∃ x, x = hsN g D (evsO g) := ⟨_, rfl⟩
         have hfin : hsN g (depM g.events dl g.events.length) (evsO g) = x := by rw [hx, hD, hi2]
         rw [hfin, ← hx]
         refine SW.freeze [0, 1, 2] ?_
         simp only [mvcgen_simp, method_specs_simp, seval, encGr, hL, hM, obN, obS, encEv, convs_r8j, conv_junkj]
         refine sw_deep 2 ?_
         simp only [mvcgen_simp, method_specs_simp, seval, encGr, hL, hM, obN, obS, encEv, map_r8, List.map_cons, List.map_nil]
         refine CW.sound ?_
         simp only [method_specs_simp, seval, encGr, hL, hM, obN, obS, encEv, hF]
end
end Go.Proofs.YtdldgbkdcpdbeaaGreat
end

section
section
namespace Go.Pm
open Go.RowKit
inductive RdB {α : Type} (B : Nat → Prop) : Sem α → Prop
 | pure (a : α) : RdB B (.pure a)
 | load {m : Mode} {a : Addr} {k : Value → Sem α} : B a.block → (∀ v, RdB B (k v)) → RdB B (.load m a k)
 | shape {r : Nat} {k : Option (TypeId × Nat) → Sem α} : B r → (∀ v, RdB B (k v)) → RdB B (.shape r k)
 | program {k : Program → Sem α} : (∀ p, RdB B (k p)) → RdB B (.program k)
 | obj {r : Nat} {k : Obj → Sem α} : B r → (∀ o, RdB B (k o)) → RdB B (.getObj r k)
 | halt (h : Halt) : RdB B (.halt h)
 | never {s : Sem α} (h : ∀ (P : Program) (w : World) (x : α) (w1 : World), s.run P w ≠ .ok x w1) : RdB B s
theorem RdB.bind {α β : Type} {B : Nat → Prop} {s : Sem α} {f : α → Sem β} (hs : RdB B s) (hf : ∀ a, RdB B (f a)) : RdB B (s.bind f) := by
 induction hs with
 | pure a => exact hf a
 | load hb _ ih => exact .load hb fun v => ih v
 | shape hb _ ih => exact .shape hb fun v => ih v
 | program _ ih => exact .program fun v => ih v
 | obj hb _ ih => exact .obj hb fun v => ih v
 | halt h => exact .halt h
 | @never s h =>
   refine .never fun P w x w1 e => ?_
   have e : (s >>= f).run P w = .ok x w1 := e
   rw [Sem.run_bind] at e
   cases hs : s.run P w with
   | ok y w2 => exact h P w y w2 hs
   | halt y w2 => rw [hs] at e; cases e
def SameB (w w' : World) (b : Nat) : Prop := w'.heap[b]? = w.heap[b]? ∧ ∃ us e fr, w.heap[b]? = some (.cells us e fr)
theorem RdB.run {α : Type} {B : Nat → Prop} {s : Sem α} (hs : RdB B s) {P : Program} {w w' w1 : World} {x : α} (hk : ∀ b, B b → SameB w w' b) (h : s.run P w = .ok x w1) : w1 = w ∧ s.run P w' = .ok x w' := by
 induction hs with
 | pure a =>
   simp only [Sem.run] at h ⊢
   injection h with h1 h2
   exact ⟨h2.symm, by rw [h1]⟩
 | @load m a k hb _ ih =>
   obtain ⟨e1, us, el, fr, e2⟩ := hk _ hb
   have hc : w'.cell? a = w.cell? a := by unfold World.cell?; rw [e1]
   simp only [Sem.run] at h ⊢
   rw [hc]
   cases hv : w.cell? a with
   | some v => rw [hv] at h; exact ih v h
   | none =>
     exfalso
     rw [hv] at h
     simp only at h
     unfold World.farLoad at h
     rw [e2] at h
     cases h
 | @shape r k hb _ ih =>
   simp only [Sem.run] at h ⊢
   have : w'.shape? r = w.shape? r := by unfold World.shape?; rw [(hk _ hb).1]
   rw [this]
   exact ih _ h
 | @program k _ ih =>
   simp only [Sem.run] at h ⊢
   exact ih _ h
 | @obj r k hb _ ih =>
   simp only [Sem.run] at h ⊢
   rw [(hk _ hb).1]
   split at h
   · cases h
   · rename_i o hn ho
     exact ih _ h
   · cases h
 | halt e => simp only [Sem.run] at h; cases h
 | never hn => exact absurd h (hn _ _ _ _)
section
variable {B : Nat → Prop}
theorem rb_program : RdB B program := .program fun p => .pure p
theorem rb_typeInfo (t : TypeId) : RdB B (typeInfo t) := rb_program.bind fun p => by
 split
 · exact .pure _
 · exact .halt _
theorem rb_underlying (t : TypeId) : RdB B (underlying t) := rb_program.bind fun p => by
 split
 · exact .pure _
 · exact .halt _
theorem rb_sizeOf (t : TypeId) : RdB B (sizeOf t) := (rb_typeInfo t).bind fun i => .pure _
theorem rb_isAgg (t : TypeId) : RdB B (isAgg t) := (rb_underlying t).bind fun d => by
 split <;> exact .pure _
theorem rb_load {a : Addr} (h : B a.block) : RdB B (load a) := .load h fun v => .pure v
theorem add_block (a : Addr) (n : Nat) : (a.add n).block = a.block := by
 unfold Addr.add
 split <;> rfl
theorem rb_loadCells {a : Addr} (h : B a.block) : ∀ (n i : Nat) (acc : Array Value), RdB B (loadCellsFrom a i n acc)
 | 0, i, acc => .pure _
 | n + 1, i, acc => (rb_load (by rw [add_block]; exact h)).bind fun v => rb_loadCells h n (i + 1) _
theorem rb_loadVar (t : TypeId) {a : Addr} (h : B a.block) : RdB B (loadVar t a) := (rb_isAgg t).bind fun b => by
 cases b
 · exact rb_load h
 · exact (rb_sizeOf t).bind fun n => (rb_loadCells h n 0 #[]).bind fun cs => .pure _
theorem rb_loadAt (t : TypeId) {a : Addr} (h : B a.block) : RdB B (Instr.loadAt t (.pointer (some a))) := by
 show RdB B (loadVar t a)
 exact rb_loadVar t h
theorem rb_noView {a : Addr} (h : B a.block) : RdB B (noView a) := by
 unfold noView
 refine RdB.bind ?_ fun x => ?_
 · unfold viewAt
   refine RdB.bind (.shape h fun v => .pure v) fun y => ?_
   split
   · exact .pure _
   · show RdB B (Sem.getObj a.block fun o => (Sem.pure o).bind _)
     refine .obj h fun o => ?_
     simp only [Sem.bind]
     split <;> exact .pure _
 · split
   · exact .halt _
   · exact .pure _
theorem rb_byteOf {a : Addr} (h : B a.block) : RdB B (byteOf a) := by
 unfold byteOf
 split
 · exact .pure _
 · refine rb_program.bind fun p => (rb_noView h).bind fun _ => ?_
   refine RdB.bind (.shape h fun v => .pure v) fun x => ?_
   split
   · simp only
     split
     · exact .pure _
     · split
       · exact .pure _
       · exact .halt _
   · exact .halt _
theorem rb_fieldPlace {a : Addr} (h : B a.block) (f : Field) : RdB B (fieldPlace a f) := by
 unfold fieldPlace
 refine (rb_sizeOf _).bind fun n => ?_
 split
 · unfold partAt
   exact (rb_byteOf h).bind fun b => (rb_byteOf (by first | exact h | (rw [add_block]; exact h))).bind fun b2 => .pure _
 · exact .pure _
theorem rb_fieldAt (s : TypeId) {a : Addr} (h : B a.block) (i : Nat) : RdB B (Instr.fieldAt s (.pointer (some a)) i) := by
 unfold Instr.fieldAt
 refine (rb_underlying s).bind fun d => ?_
 split
 · split
   · exact (rb_fieldPlace h _).bind fun a => .pure _
   · exact .halt _
 · exact .halt _
theorem rb_extract (v : Value) (i : Nat) : RdB B (Instr.extract v i) := by
 unfold Instr.extract
 split
 · split
   · exact .pure _
   · exact .halt _
 · exact .halt _
theorem rb_asIntOf (v : Value) : RdB B (asIntOf v) := by
 unfold asIntOf
 split
 · exact .pure _
 · exact .halt _
 · exact .halt _
theorem rb_sureAddr (v : Value) : RdB B (Instr.sureAddr v) := by
 unfold Instr.sureAddr
 split
 · exact .pure _
 · exact .halt _
theorem never_rt {α : Type} (a b : Int) (s : Bool) (c : BoundsCode) (P : Program) (w : World) (r : α) (w1 : World) : (runtimePanic (.bounds a b s c) : Sem α).run P w ≠ .ok r w1 := fun e => by
 unfold runtimePanic goPanic at e
 rw [Sem.run_bind] at e
 cases hs : Sem.run P program w with
 | ok y w2 => rw [hs] at e; cases e
 | halt y w2 => rw [hs] at e; cases e
theorem never_bounds {α : Type} (k : IntKind) (x y : Int) (c : BoundsCode) : RdB B (boundsPanic (α := α) k x y c) := .never fun P w r w1 e => by
 unfold boundsPanic at e
 simp only at e
 split at e
 · rw [Sem.run_bind] at e
   cases hs : Sem.run P ((fun x => x == 1) <$> choose (.extern "runtime.boundsError.signed" 2)) w with
   | ok y w2 => rw [hs] at e; exact never_rt _ _ _ _ _ _ _ _ e
   | halt y w2 => rw [hs] at e; cases e
 · rw [Sem.run_bind] at e
   exact never_rt _ _ _ _ _ _ _ _ e
theorem rb_indexAt (t : TypeId) (x i : Value) : RdB B (Instr.indexAt t x i) := by
 unfold Instr.indexAt
 refine (rb_asIntOf _).bind fun ki => ?_
 refine (rb_underlying t).bind fun d => ?_
 split
 · refine (rb_sureAddr _).bind fun a => (RdB.pure _).bind fun z => ?_
   obtain ⟨base, len, elem⟩ := z
   refine (rb_underlying t).bind fun d => ?_
   simp only
   cases base with
   | none => exact never_bounds _ _ _ _
   | some a =>
     simp only
     split
     · exact (rb_sizeOf _).bind fun n => .pure _
     · split <;> (split <;> first | exact .halt _ | exact never_bounds _ _ _ _)
 · refine (RdB.pure _).bind fun z => ?_
   obtain ⟨base, len, elem⟩ := z
   refine (rb_underlying t).bind fun d => ?_
   simp only
   cases base with
   | none => exact never_bounds _ _ _ _
   | some a =>
     simp only
     split
     · exact (rb_sizeOf _).bind fun n => .pure _
     · split <;> (split <;> first | exact .halt _ | exact never_bounds _ _ _ _)
 · exact .halt _
def lookP (B : Nat → Prop) (ev : Operand → Value) : Op → Prop
 | .move _ => True
 | .extract _ _ => True
 | .indexAddr _ _ _ => True
 | .nilCheck x => ∃ a, ev x = .pointer (some a)
 | .fieldAddr _ x _ => ∃ a, ev x = .pointer (some a) ∧ B a.block
 | .load _ x => ∃ a, ev x = .pointer (some a) ∧ B a.block
 | _ => False
theorem lookP_run {P : Program} {o : Oper} {ev : Operand → Value} (hk : lookP B ev o.op) {w w1 w' : World} {x : Next} (hw : ∀ b, B b → SameB w w' b) (h : (execOp ev o).run P w = .ok x w1) : ∃ v, x = .value v ∧ w1 = w ∧ (execOp ev o).run P w' = .ok (.value v) w' := by
 have key : ∀ s : Sem Value, RdB B s → ((do pure (.value (← s)) : Sem Next)).run P w = .ok x w1 → ∃ v, x = .value v ∧ w1 = w ∧ ((do pure (.value (← s)) : Sem Next)).run P w' = .ok (.value v) w' := by
   intro s hs h
   have hr : RdB B (do pure (.value (← s)) : Sem Next) := hs.bind fun v => .pure _
   obtain ⟨h1, h2⟩ := hr.run hw h
   rw [Sem.run_bind] at h
   cases hv : s.run P w with
   | halt e w2 => rw [hv] at h; cases h
   | ok v w2 =>
     rw [hv, Result.andThen_ok] at h
     simp only [Sem.run_pure] at h
     injection h with h3 h4
     subst h3
     exact ⟨v, rfl, h1, h2⟩
 cases hop : o.op <;> rw [hop] at hk <;> first | (cases hk; done) | skip
 · rename_i y
   simp only [execOp, hop] at h ⊢
   simp only [Sem.run_pure] at h ⊢
   injection h with h1 h2
   exact ⟨_, h1.symm, h2.symm, rfl⟩
 · rename_i t y
   obtain ⟨a, e, hb⟩ := hk
   simp only [execOp, hop] at h ⊢
   rw [e] at h ⊢
   exact key _ (rb_loadAt _ hb) h
 · rename_i y
   obtain ⟨a, e⟩ := hk
   simp only [execOp, hop, e] at h ⊢
   simp only [Sem.run_pure] at h ⊢
   injection h with h1 h2
   exact ⟨_, h1.symm, h2.symm, rfl⟩
 · rename_i t y i
   obtain ⟨a, e, hb⟩ := hk
   simp only [execOp, hop] at h ⊢
   rw [e] at h ⊢
   exact key _ (rb_fieldAt _ hb _) h
 · simp only [execOp, hop] at h ⊢
   exact key _ (rb_indexAt _ _ _) h
 · simp only [execOp, hop] at h ⊢
   exact key _ (rb_extract _ _) h
end
def frzX : V → Prop
 | .fptr cs _ => 0 < cs.length
 | .sptr sz xs i _ => 0 < sz ∧ i < xs.length
 | _ => False
theorem cell_cells {w : World} {a : Addr} {u : Value} (h : w.cell? a = some u) : ∃ us e fr, w.heap[a.block]? = some (.cells us e fr) := by
 unfold World.cell? at h
 cases hb : w.heap[a.block]? with
 | none => rw [hb] at h; simp at h
 | some o => cases o <;> rw [hb] at h <;> first | exact ⟨_, _, _, rfl⟩ | simp at h
theorem frz_ptr {c : Cx} {x : V} {v : Value} (h : RV c x v) (hx : frzX x) : ∃ a, v = .pointer (some a) ∧ c.fz a.block ∧ ∃ us e fr, c.w.heap[a.block]? = some (.cells us e fr) := by
 cases x <;> first | exact hx.elim | skip
 · rename_i sz xs i off
   obtain ⟨h1, h2⟩ : 0 < sz ∧ i < xs.length := hx
   obtain ⟨b, o, e, hf, hr⟩ := h
   refine ⟨_, e, hf, ?_⟩
   obtain ⟨g1, g2⟩ := hr.get i (List.getElem?_eq_getElem h2)
   obtain ⟨u, g3, _⟩ := g2.get 0 (List.getElem?_eq_getElem (by omega))
   have := cell_cells g3; exact this
 · rename_i cs off
   obtain ⟨b, e, hf, hr⟩ := h
   refine ⟨_, e, hf, ?_⟩
   obtain ⟨u, g3, _⟩ := hr.get 0 (List.getElem?_eq_getElem hx)
   have := cell_cells g3; exact this
def opX (ev : Operand → V) : Op → Prop
 | .move _ => True
 | .extract _ _ => True
 | .indexAddr _ _ _ => True
 | .nilCheck x => frzX (ev x)
 | .fieldAddr _ x _ => frzX (ev x)
 | .load _ x => frzX (ev x)
 | _ => False
def FLi (P : Program) : List Oper → St → Prop
 | [], st => st.m = []
 | o :: os, st => opX (St.ev st.t) o.op ∧ T1 P o st (fun st' => FLi P os st')
def pickM : Option Oper → List Oper → List Oper
 | some o, os => o :: os
 | none, os => os
def pickO (os : List Oper) : List Nat → List Oper
 | [] => []
 | f :: fl => pickM os[f]? (pickO os fl)
def FL (P : Program) (ops : Array Oper) (fl : List Nat) (t : List V) : Prop := FLi P (pickO ops.toList fl) ⟨t, [], []⟩
theorem FLi_m {P : Program} : ∀ (os : List Oper) (st : St), FLi P os st → st.m = []
 | [], _, h => h
 | o :: os, st, ⟨_, h⟩ => by
   obtain ⟨r, new, _, h2⟩ := Q1_sound (o := o) h
   have := FLi_m os _ h2
   exact (List.append_eq_nil_iff.1 this).1
section
variable {P : Program} {os : List Oper} {t : List V} {gs : List V} {o : Oper} {m : List Ob} {ops : Array Oper} {fl : List Nat} {ev : Operand → V}
@[method_specs_simp] theorem FL_eq : FL P os.toArray fl t = FLi P (pickO os fl) ⟨t, [], []⟩ := nr rfl
@[method_specs_simp] theorem FLi_cons : FLi P (o :: os) ⟨t, m, gs⟩ = (opX (St.ev t) o.op ∧ T1 P o ⟨t, m, gs⟩ (fun st' => FLi P os st')) := nr rfl
@[method_specs_simp] theorem FLi_nil : FLi P [] ⟨t, [], gs⟩ = True := eq_true rfl
@[method_specs_simp] theorem pick_cons {f : Nat} : pickO os (f :: fl) = pickM os[f]? (pickO os fl) := nr rfl
@[method_specs_simp] theorem pick_nil : pickO os [] = [] := nr rfl
@[method_specs_simp] theorem pick_some {o : Oper} : pickM (some o) os = o :: os := nr rfl
@[method_specs_simp] theorem opX_load {u : TypeId} {x : Operand} : opX ev (.load u x) = frzX (ev x) := nr rfl
@[method_specs_simp] theorem opX_nil {x : Operand} : opX ev (.nilCheck x) = frzX (ev x) := nr rfl
@[method_specs_simp] theorem opX_field {u i : Nat} {x : Operand} : opX ev (.fieldAddr u x i) = frzX (ev x) := nr rfl
@[method_specs_simp] theorem opX_move {x : Operand} : opX ev (.move x) = True := nr rfl
@[method_specs_simp] theorem opX_index {u : TypeId} {x y : Operand} : opX ev (.indexAddr u x y) = True := nr rfl
@[method_specs_simp] theorem frzX_fptr {c : V} {cs : List V} {off : Nat} : frzX (.fptr (c :: cs) off) = True := eq_true (Nat.succ_pos _)
@[method_specs_simp] theorem frzX_sptr {sz i off : Nat} {xs : List (List V)} : frzX (.sptr sz xs i off) = (0 < sz ∧ i < xs.length) := nr rfl
end
def fltS (ops : Array Oper) : List Nat → List Nat → Bool
 | _, [] => true
 | done, f :: fs => !(fs.contains f) && fltS ops (f :: done) fs && (match ops[f]? with
   | some o => o.guard.isNone && (o.after.toList.all fun e => !Region.binds .any e || done.contains e.on) && ((List.range ops.size).all fun j => Nat.beq j f || done.contains j || (match ops[j]? with
       | some oj => (oj.after.toList.any fun e => Region.binds .any e && Nat.beq e.on f) || o.apart ops oj
       | none => true))
   | none => false)
section
variable {P : Program} {ops : Array Oper} {K : St → Prop} {w0 : World} {E Zo : Nat → Prop} {gh : List Value} {Q : Exit → Act → World → Prop}
theorem head_held {S : World → Prop} {k : Nat} {st st' : St} {rs : List Res} {fl : List Nat} (A : Any ops fl k) (hS : ∀ st a w, Rel w0 E Zo gh st a w → S w) (hQ : ∀ st a w, K st → Rel w0 E Zo gh st a w → Q .normal a w)
   (hrun : Run P (dsts ops) (ops.toList.take k) st rs st') (htail : RS P (dsts ops) (ops.toList.drop k) st' K) :
   ∀ (fuel : Nat) (F : List Bool) (a : Act) (w : World), F.length = k → left F + (ops.size - k) ≤ fuel → (∀ i, F[i]? = some true → ∀ j ∈ waits ops i, F[j]? = some true) → (∀ f ∈ fl, F[f]? = some true) →
     Part ops k st rs w0 E Zo gh F a w → wpAnyH P .any ops Q S fuel (lay0 ops.size F) a w := by
 have hlenk : (ops.toList.take k).length = k := by simp [A.le]
 have hrl : rs.length = k := by rw [hrun.len, hlenk]
 have htl : ∀ (fuel : Nat) (a : Act) (w : World), ops.size - k ≤ fuel → Rel w0 E Zo gh st' a w → wpAnyH P .any ops Q S fuel (flags ops.size k) a w := fun fuel a w hfu r =>
   tail_held A hQ (fun i o st K a w _ _ hS1 _ r => Oper.wp_mono (fun a w h => ⟨(by obtain ⟨st'', _, h2⟩ := h; exact hS _ _ _ h2), h⟩) (S1_sound hS1 w0 E Zo gh a w _ r)) fuel k st' a w (Nat.le_refl _) A.le (by omega) htail (hS _ _ _ r) r
 intro fuel
 induction fuel with
 | zero =>
   intro F a w hF hl hc hfl r
   have h0 : left F = 0 := by omega
   have hall := left_zero h0
   rw [hF] at hall
   subst hall
   rw [lay0_all A.le]
   refine htl 0 a w (by omega) ?_
   rw [hrun.fin, hlenk]
   exact r
 | succ fuel ih =>
   intro F a w hF hl hc hfl r
   by_cases h0 : left F = 0
   · have hall := left_zero h0
     rw [hF] at hall
     subst hall
     rw [lay0_all A.le]
     refine htl (fuel + 1) a w (by omega) ?_
     rw [hrun.fin, hlenk]
     exact r
   · refine ⟨fun hr => ?_, fun i hi => ?_⟩
     · exfalso
       refine h0 ?_
       have hsz : (lay0 ops.size F).size = ops.size := by have := A.le; simp [lay0]; omega
       have := ready_some hsz A.early hr
       have hF' : F = List.replicate F.length true := all_true fun j hj => by rw [← lay0_get hj]; exact this j (by have := A.le; omega)
       rw [hF']
       exact left_rep _
     · obtain ⟨h1, h2, h3⟩ := ready_waits hi
       have hik : i < k := by
         by_cases hik : i < k
         · exact hik
         · exfalso
           refine h0 ?_
           have hw3 : ∀ l ∈ waits ops i, F[l]? = some true := by
             intro l hl2
             have := h3 l hl2
             by_cases hlk : l < F.length
             · rw [Array.getD_eq_getD_getElem?, lay0_get hlk] at this
               cases hb : F[l]? with
               | none => rw [hb] at this; cases this
               | some b => rw [hb] at this; simpa using this
             · exfalso
               rw [Array.getD_eq_getD_getElem?] at this
               unfold lay0 at this
               rw [List.getElem?_toArray, List.getElem?_append_right (by omega), List.getElem?_replicate] at this
               split at this <;> simp at this
           have hanc0 : ∀ {a b : Nat}, Anc ops a b → (∀ l ∈ waits ops a, F[l]? = some true) → F[b]? = some true := by
             intro a b h
             induction h with
             | one h => exact fun hw => hw _ h
             | more h _ ih => exact fun hw => ih (hc _ (hw _ h))
           have hF' : F = List.replicate F.length true := all_true fun j hj => by
             by_cases hjf : j ∈ fl
             · exact hfl j hjf
             · exact hanc0 (A.tail i (by omega) h2 j (by omega) hjf) hw3
           rw [hF']
           exact left_rep _
       have hiF : F[i]? = some false := by
         rw [Array.getD_eq_getD_getElem?, lay0_get (by omega)] at h1
         have hlt : i < F.length := by omega
         rw [List.getElem?_eq_getElem hlt] at h1 ⊢
         simpa using h1
       have h3' : ∀ j ∈ waits ops i, F[j]? = some true := by
         intro j hj
         have hj2 := A.early i h2 j hj
         have := h3 j hj
         rw [Array.getD_eq_getD_getElem?, lay0_get (by omega)] at this
         cases hb : F[j]? with
         | none => rw [hb] at this; cases this
         | some b => rw [hb] at this; simpa using this
       rw [lay0_set (by omega)]
       have hnext : ∀ (a' : Act) (w' : World), Part ops k st rs w0 E Zo gh (F.set i true) a' w' → S w' ∧ wpAnyH P .any ops Q S fuel (lay0 ops.size (F.set i true)) a' w' := by
         intro a' w' hp
         refine ⟨hS _ _ _ hp, ?_⟩
         refine ih (F.set i true) a' w' (by simpa using hF) (by have := left_set hiF; omega) ?_ (fun f hf => ?_) hp
         rotate_left
         · by_cases e : f = i
           · subst e; rw [List.getElem?_set_self (by omega)]
           · rw [List.getElem?_set_ne (fun q => e q.symm)]; exact hfl f hf
         intro j hj l hl
         by_cases e : j = i
         · subst e
           have hlj := A.early j h2 l hl
           rw [List.getElem?_set_ne (by omega)]
           exact h3' l hl
         · rw [List.getElem?_set_ne (fun q => e q.symm)] at hj
           have := hc j hj l hl
           by_cases e2 : l = i
           · subst e2
             rw [List.getElem?_set_self (by omega)]
           · rw [List.getElem?_set_ne (fun q => e2 q.symm)]
             exact this
       rcases head_step (Q := Q) A hrun hF hc r hik h2 hiF h3' hnext with ⟨hw, h⟩ | ⟨hw, h⟩
       · unfold wpOp
         rw [Array.getElem?_eq_getElem h2]
         simp only
         rw [if_pos hw]
         exact .inl h
       · unfold wpOp
         rw [Array.getElem?_eq_getElem h2]
         simp only
         rw [if_neg (by rw [hw]; decide)]
         exact h
theorem live_keep {w : World} {Zo : Nat → Prop} {m : List Ob} {β β' : List Lc} (h : (cx w Zo m β).le (cx w Zo m β')) {b : Nat} (k : liveAt m β b) : liveAt m β' b := by
 obtain ⟨o, ob, l, h1, h2, h3⟩ := k
 have ho := h.ob o trivial
 have ho : obLe m[o]? β[o]? m[o]? β'[o]? := ho
 rw [h1, h2] at ho
 cases ob with
 | hole => simp [Ob.blk] at h3
 | dead => simp [Ob.blk] at h3
 | box lv cs =>
   rcases ho with ho | ⟨lv', cs', l', e1, e2, e3⟩
   · cases ho
   · refine ⟨o, _, l', h1, e2, ?_⟩
     cases lv
     · simp [Ob.blk] at h3
     · simp only [Ob.blk, Option.some.injEq] at h3 ⊢; rw [e3]; exact h3
 | arr lv sz xs =>
   rcases ho with ho | ⟨lv', xs', e1, e2, e3⟩
   · cases ho
   · exact ⟨o, _, l, h1, e2, h3⟩
 | mp lv ks vs =>
   rcases ho with ho | ⟨lv', ks', vs', l', e1, e2, e3⟩
   · cases ho
   · refine ⟨o, _, l', h1, e2, ?_⟩
     cases lv
     · simp [Ob.blk] at h3
     · simp only [Ob.blk, Option.some.injEq] at h3 ⊢; rw [e3]; exact h3
theorem flt_soundK {fl : List Nat} {k : Nat} {st st' : St} {rs : List Res} {wb : World} {β0 : List Lc} (A : Any ops fl k) (hQ : ∀ st2 a w, K st2 → Rel wb (liveAt st.m β0) Zo gh st2 a w → Q .normal a w) (hns : noSel ops = true) (hP : ∀ c a w, ¬ Q (.panic c) a w)
   (hrun : Run P (dsts ops) (ops.toList.take k) st rs st') (htail : RS P (dsts ops) (ops.toList.drop k) st' K) :
   ∀ (todo done : List Nat) (fuel : Nat) (F : List Bool) (a : Act) (t : List V) (β : List Lc), fltS ops done todo = true → FL P ops todo t → Mem wb Zo st.m β → (cx wb Zo st.m β0).le (cx wb Zo st.m β) → RVs (cx wb Zo st.m β) t a.tmps.toList →
     (∀ g ∈ done, F[g]? = some true) → (∀ g ∈ done, g < k) → (∀ f ∈ todo, f < k) → F.length = k →
     left F + (ops.size - k) ≤ fuel → (∀ i, F[i]? = some true → ∀ j ∈ waits ops i, F[j]? = some true) →
     (∀ f ∈ todo, F[f]? = some false) → (∀ f ∈ fl, f ∈ todo ∨ F[f]? = some true) → Part ops k st rs wb (liveAt st.m β0) Zo gh F a wb → wpAnyH P .any ops Q (fun w => Frame (liveAt st.m β0) wb w) fuel (lay0 ops.size F) a wb
 | [], done, fuel, F, a, t, β, _, _, _, _, _, _, _, _, hF, hl, hc, _, hfl, r => head_held A (fun _ _ _ ⟨_, _, _, h, _⟩ => h) hQ hrun htail fuel F a wb hF hl hc (fun f hf => (hfl f hf).resolve_left (by simp)) r
 | f :: todo, done, fuel, F, a, t, β, hb, hv, M, hle, ht, hd, hdk, hk, hF, hl, hc, hf, hfl, r => by
   have hfF := hf f List.mem_cons_self
   have hfk := hk f List.mem_cons_self
   have hleft := left_set hfF
   obtain ⟨fuel, rfl⟩ : ∃ n, fuel = n + 1 := ⟨fuel - 1, by omega⟩
   have hsz : f < ops.size := by have := A.le; omega
   have ho : ops[f]? = some ops[f] := Array.getElem?_eq_getElem hsz
   unfold fltS at hb
   unfold FL at hv
   have ho' : ops.toList[f]? = some ops[f] := by rw [Array.getElem?_toList]; exact ho
   rw [pickO, ho'] at hv
   rw [ho] at hb
   obtain ⟨hv1, hv2⟩ := hv
   have hv2 : Q1 P (ops[f]).op (St.ev t) [] 0 (fun r new => FLi P (pickO ops.toList todo) ⟨putT t (ops[f]).dst r, [] ++ new, []⟩) := hv2
   simp only [Bool.and_eq_true, Bool.not_eq_true'] at hb
   obtain ⟨⟨hb1, hb2⟩, ⟨hb4, hb5⟩, hb6⟩ := hb
   have hfn : f ∉ todo := fun h => by have := List.contains_iff_mem.2 h; rw [hb1] at this; cases this
   have hg : (ops[f]).guard = none := by simpa using hb4
   have hw : ∀ j ∈ waits ops f, j ∈ done := by
     intro j hj
     obtain ⟨e, he, hbe, rfl⟩ := (waits_spec ho).1 hj
     have := List.all_eq_true.1 hb5 e (Array.mem_toList_iff.2 he)
     rw [hbe] at this
     simpa using this
   have hwant : Region.wanted ops[f] (yielded ops a.tmps) = true := by unfold Region.wanted; rw [hg]
   have hfz : ∀ b, (cx wb Zo st.m β).fz b → b < wb.heap.size ∧ ¬ liveAt st.m β0 b := fun b h => ⟨h.1, fun hl => h.2 (.inr (live_keep hle hl))⟩
   have hlook : lookP (fun b => (b < wb.heap.size ∧ ¬ liveAt st.m β0 b) ∧ ∃ us e fr, wb.heap[b]? = some (.cells us e fr)) a.eval (ops[f]).op := by
     cases hop : (ops[f]).op <;> rw [hop] at hv1 <;> first | exact hv1.elim | trivial | skip
     case load u x =>
       obtain ⟨A, e, h1, h2⟩ := frz_ptr (ev_RV ht x) hv1
       exact ⟨A, e, hfz _ h1, h2⟩
     case nilCheck x =>
       obtain ⟨A, e, h1, h2⟩ := frz_ptr (ev_RV ht x) hv1
       exact ⟨A, e⟩
     case fieldAddr u x i =>
       obtain ⟨A, e, h1, h2⟩ := frz_ptr (ev_RV ht x) hv1
       exact ⟨A, e, hfz _ h1, h2⟩
   have hsame : ∀ w', Frame (liveAt st.m β0) wb w' → ∀ b, ((b < wb.heap.size ∧ ¬ liveAt st.m β0 b) ∧ ∃ us e fr, wb.heap[b]? = some (.cells us e fr)) → SameB wb w' b := fun w' hS b h => ⟨hS.block b h.1.1 h.1.2, h.2⟩
   obtain ⟨rv, new, hqs, hv3⟩ := Q1_sound hv2
   have hnew : new = [] := FLi_m _ _ hv3
   subst hnew
   have hwp := hqs wb Zo st.m β a (fun _ _ _ => False) M (fun o ob h => by simp at h) (fun x _ => ev_RV ht x) (fun j hj => by simp at hj)
   unfold Oper.wp at hwp
   obtain ⟨v, hrun1, hyield, hres⟩ : ∃ v, (execOp a.eval ops[f]).run P wb = .ok (.value v) wb ∧ (∀ w', Frame (liveAt st.m β0) wb w' → (execOp a.eval ops[f]).run P w' = .ok (.value v) w') ∧ ∃ β', Mem wb Zo st.m β' ∧ (cx wb Zo st.m β).le (cx wb Zo st.m β') ∧ RVs (cx wb Zo st.m β') (putT t (ops[f]).dst rv) (a.put (ops[f]).dst v).tmps.toList := by
     cases hr : (execOp a.eval ops[f]).run P wb with
     | ok x w1 =>
       obtain ⟨v, rfl, rfl, h3⟩ := lookP_run hlook (hsame wb (Frame.refl _ _)) hr
       rw [hr] at hwp
       obtain ⟨v', β', e, hG, M', hle', hrv, _⟩ := hwp
       refine ⟨v, rfl, fun w' hS => ?_, β', M', hle', ?_⟩
       · obtain ⟨v2, e2, _, h4⟩ := lookP_run hlook (hsame w' hS) hr
         injection e2 with e2
         subst e2
         exact h4
       · rw [e]
         exact (ht.mono hle').put hrv _
     | halt e w1 =>
       rw [hr] at hwp
       exfalso
       cases e <;> exact hwp
   obtain ⟨β', M', hle', hvs⟩ := hres
   refine wpAnyH_first (v := v) ho (fun j o cs b hj => noSel_out hns hj cs b) (fun c a w h => (hP c _ _ h).elim) fuel (lay0 ops.size F) a wb (fun j oj hj hne hun hno => ?_) ?_ (.inl ⟨hwant, hyield⟩) (Frame.refl _ _) ?_
   · have := List.all_eq_true.1 hb6 j (List.mem_range.2 (Array.getElem?_eq_some_iff.1 hj).1)
     rw [hj] at this
     simp only [Bool.or_eq_true] at this
     rcases this with (h | h) | h | h
     · exact absurd (Nat.eq_of_beq_eq_true h) hne
     · exfalso
       have hm : j ∈ done := by simpa using h
       have hF2 := hd j hm
       rw [Array.getD_eq_getD_getElem?, lay0_get (by have := hdk j hm; omega), hF2] at hun
       cases hun
     · obtain ⟨e, he, h2⟩ := List.any_eq_true.1 h
       simp only [Bool.and_eq_true] at h2
       exact absurd (Nat.eq_of_beq_eq_true h2.2) (hno e (Array.mem_toList_iff.1 he) h2.1)
     · exact h
   · refine mem_ready.2 ⟨?_, _, ho, fun e he hbe => ?_⟩
     · rw [Array.getD_eq_getD_getElem?, lay0_get (by omega), hfF]; rfl
     · have hm : e.on ∈ done := hw _ ((waits_spec ho).2 ⟨e, he, hbe, rfl⟩)
       rw [Array.getD_eq_getD_getElem?, lay0_get (by have := hdk _ hm; omega), hd _ hm]; rfl
   · rw [lay0_set (by omega)]
     have hpart : Part ops k st rs wb (liveAt st.m β0) Zo gh (F.set f true) (a.put (ops[f]).dst v) wb := by
       rcases head_step (Q := fun _ _ _ => False) (K' := fun a' w' => Part ops k st rs wb (liveAt st.m β0) Zo gh (F.set f true) a' w') A hrun hF hc r hfk hsz hfF (fun j hj => hd j (hw j hj)) (fun _ _ h => h) with ⟨_, h⟩ | ⟨h, _⟩
       · unfold Oper.wp at h
         rw [hrun1] at h
         exact h
       · rw [hwant] at h; cases h
     have hset : ∀ g, F[g]? = some true → (F.set f true)[g]? = some true := fun g h => by
       by_cases e : g = f
       · subst e; rw [List.getElem?_set_self (by omega)]
       · rw [List.getElem?_set_ne (fun q => e q.symm)]; exact h
     refine flt_soundK A hQ hns hP hrun htail todo (f :: done) fuel (F.set f true) _ _ β' hb2 hv3 M' (hle.trans hle') hvs (fun g hg => ?_) (fun g hg => ?_) (fun g hg => hk g (List.mem_cons_of_mem _ hg)) (by simpa using hF) (by omega) ?_ (fun g hg => ?_) (fun g hg => ?_) hpart
     · rcases List.mem_cons.1 hg with rfl | hg
       · rw [List.getElem?_set_self (by omega)]
       · exact hset g (hd g hg)
     · rcases List.mem_cons.1 hg with rfl | hg
       · exact hfk
       · exact hdk g hg
     · intro j hj l hl
       by_cases e : j = f
       · subst e
         exact hset l (hd l (hw l hl))
       · rw [List.getElem?_set_ne (fun q => e q.symm)] at hj
         exact hset l (hc j hj l hl)
     · have hne : g ≠ f := fun e => hfn (e ▸ hg)
       rw [List.getElem?_set_ne (fun q => hne q.symm)]
       exact hf g (List.mem_cons_of_mem _ hg)
     · rcases hfl g hg with h | h
       · rcases List.mem_cons.1 h with rfl | h
         · exact .inr (by rw [List.getElem?_set_self (by omega)])
         · exact .inl h
       · exact .inr (hset g h)
theorem SW.drawnK0 {st : St} {Q : Exit → St → Prop} {id : Nat} (fl : List Nat) (k : Nat) (hm : P.follows .mixedOrders = true) (hk : anyF ops fl k = true) (hf : fltS ops [] fl = true) (hfv : FL P ops fl st.t) (hns : noSel ops = true) (hP : ∀ c st, ¬ Q (.panic c) st)
   (h : RQ P (dsts ops) k ops.toList st (Q .normal)) : SW P (.region id ops true) st Q := by
 intro w0 E Zo gh a w r
 have A := Any.of hk
 obtain ⟨rs, st', hrun, htail⟩ := RQ_run h
 refine wp_region_any hm ?_
 have hlenk : (ops.toList.take k).length = k := by simp [A.le]
 have hrl : rs.length = k := by rw [hrun.len, hlenk]
 have h0 : Array.replicate ops.size false = lay0 ops.size (List.replicate k false) := by
   have := A.le
   unfold lay0
   rw [List.length_replicate, List.replicate_append_replicate, show k + (ops.size - k) = ops.size by omega]
   simp
 rw [h0]
 obtain ⟨β, M, g1, g2, g3, g4, g5⟩ := r
 have hG : Grow w { w with drawn := w.drawn + 1 } := Grow.drew w
 have hup : ∀ (st2 : St) (a : Act) (w2 : World), Rel { w with drawn := w.drawn + 1 } (liveAt st.m β) Zo gh st2 a w2 → Rel w0 E Zo gh st2 a w2 := by
   rintro st2 a w2 ⟨β2, M2, q1, q2, q3, q4, q5⟩
   refine ⟨β2, M2, fun b hb => ?_, ?_, q3, q4, q5⟩
   · rcases q1 b hb with h | h
     · exact g1 b h
     · exact .inr (Nat.le_trans g2.size h)
   · have g3 : Frame E w0 { w with drawn := w.drawn + 1 } := g2.trans (hG.mono (fun _ q => q.elim))
     exact ⟨q2.os.trans g3.os, q2.tape.trans g3.tape, q2.output.trans g3.output, Nat.le_trans g3.size q2.size, fun i hi hE => (q2.block i (Nat.lt_of_lt_of_le hi g3.size) (fun hl => (g1 i hl).elim hE (fun h => by omega))).trans (g3.block i hi hE), Nat.le_trans g3.drawn q2.drawn⟩
 refine wpAny_of_held _ _ _ _ (flt_soundK (K := Q .normal) (st := st) (β0 := β) (wb := { w with drawn := w.drawn + 1 }) (Zo := Zo) (gh := gh) A (fun st2 a w hq hr => ⟨st2, hq, hup _ _ _ hr⟩) hns (fun c a w ⟨st, h, _⟩ => hP c st h) hrun htail fl [] ops.size _ a st.t β hf hfv (M.grow hG) (Cx.le.refl _) (g4.mono (cx_le_grow hG)) (fun g hg => by cases hg) (fun g hg => by cases hg) A.flt (by simp) ?_ (fun i hi => ?_) (fun f hf => ?_) (fun f hf => .inl hf) ?_)
 · have h1 : ∀ n, left (List.replicate n false) = n := by
     intro n
     induction n with
     | zero => rfl
     | succ n ih => simp [List.replicate_succ, left, ih]; omega
   have := A.le
   rw [h1]; omega
 · rw [List.getElem?_replicate] at hi
   split at hi <;> cases hi
 · rw [List.getElem?_replicate, if_pos (A.flt f hf)]
 · unfold Part
   rw [runT_none]
   have hf : ∀ (l : List Res), ∃ n, flatM l (List.replicate l.length false) = List.replicate n .hole := by
     intro l
     induction l with
     | nil => exact ⟨0, rfl⟩
     | cons x xs ih =>
       obtain ⟨n, hn⟩ := ih
       refine ⟨(newOf x).length + n, ?_⟩
       simp [List.replicate_succ, flatM, hn, ← List.replicate_append_replicate]
   obtain ⟨n, hn⟩ := hf rs
   rw [hrl] at hn
   rw [hn]
   obtain ⟨M1, hle⟩ := (M.grow hG).holes n
   refine ⟨_, M1, ?_, Frame.refl _ _, g3, g4.mono ((cx_le_grow hG).trans hle), g5.mono ((cx_le_grow hG).trans hle)⟩
   rintro b ⟨p, q, l, h1, h2, h3⟩
   rcases getElem?_append_holes h1 with h1 | ⟨_, rfl⟩
   · rw [List.getElem?_append_left (by rw [M.len]; exact (List.getElem?_eq_some_iff.1 h1).1)] at h2
     exact .inl ⟨p, q, l, h1, h2, h3⟩
   · simp [Ob.blk] at h3
theorem SW.drawnK {st : St} {Q : Exit → St → Prop} {id : Nat} (fl : List Nat) (k : Nat) (hm : P.follows .mixedOrders = true) (hk : anyF ops fl k = true) (hf : fltS ops [] fl = true) (hns : noSel ops = true) (hfv : FL P ops fl st.t)
   (h : RQ P (dsts ops) k ops.toList st (Q .normal)) : SW P (.region id ops true) st Q := by
 refine SW.mono (Q := fun e st => match e with | .normal => Q .normal st | _ => False) (SW.drawnK0 fl k hm hk hf hfv hns (fun c st h => h) h) fun e st h => ?_
 cases e <;> first | exact h | exact h.elim
end
end Go.Pm
end
section
namespace Go.Pm
open Go.RowKit
theorem SW.cvo {P : Program} {c : Code} {st : St} {Q : Exit → St → Prop} (o : Nat) {lv : Bool} {sz : Nat} {xs xs' : List (List V)} (hm : st.m[o]? = some (.arr lv sz xs)) (hx : (xs.map fun x => x.map (conv st.m)) = xs')
   (h : Go.Pm.SW P c ⟨st.t, st.m.set o (.arr lv sz xs'), st.g⟩ Q) : Go.Pm.SW P c st Q := by
 intro w0 E Zo gh a w ⟨β, M, h1, h2, h3, h4, h5⟩
 obtain ⟨l, hl, hok⟩ := M.at_ hm
 have hlen : xs'.length = xs.length := by rw [← hx, List.length_map]
 obtain ⟨M', hle⟩ := M.turn (w' := w) (ob' := .arr lv sz xs') hm hl (.inr ⟨lv, xs', rfl, rfl, by rw [hlen]; exact Nat.le_refl _⟩) (fun b hb => by cases lv <;> exact hb) rfl (fun b _ _ => rfl) (fun hle hfz => by
   obtain ⟨k1, k2, k3, k4⟩ := hok
   refine ⟨by rw [hlen]; exact k1, k2, k3, k4.imp id ?_⟩
   rintro ⟨us, e, fr, q1, q2, q3, q4, q5⟩
   refine ⟨us, e, fr, q1, q2, q3, ?_, q5.imp id (fun hf => (hle.fz _ hf).1)⟩
   have hrr : RR (cx w Zo (st.m.set o (.arr lv sz xs')) β) sz l.b 0 (xs.map fun x => x.map (conv st.m)) := RR_map (c := cx w Zo st.m β) (c' := cx w Zo (st.m.set o (.arr lv sz xs')) β) (f := conv st.m) rfl (fun x _ y _ v hv => (conv_sound M y v hv).mono hle) q4
   rw [hx] at hrr
   exact hrr)
 exact h w0 E Zo gh a w ⟨β, M', fun b ⟨o1, ob1, l1, g1, g2, g3⟩ => (by
   rcases getElem?_set_some g1 with ⟨rfl, rfl, _⟩ | ⟨hne, g1⟩
   · exact h1 b ⟨_, _, l1, hm, g2, by cases lv <;> exact g3⟩
   · exact h1 b ⟨o1, ob1, l1, g1, g2, g3⟩), h2, h3, h4.mono hle, h5.mono hle⟩
end Go.Pm
end
end

section
namespace Go.Proofs.YtdldgbkdcpdbeaaGreat
open Go.Pm
open Go.Gm (Ev Gr)
def DD (g : Gr) : List (Int × Int) := depM g.events (Gm.depthsE g.events) g.events.length
theorem lookD_dep {evs : List Ev} (hs : Gm.Srt evs) {dl : List Int} (hl : dl.length = evs.length) : ∀ (i k : Nat) {e : Ev} {d : Int}, k < i → evs[k]? = some e → dl[k]? = some d → lookD (depM evs dl i) e.id 0 = d
 | 0, k, e, d, h, _, _ => by omega
 | i + 1, k, e, d, h, he, hd => by
   by_cases hi : i < evs.length
   · obtain ⟨e', he'⟩ : ∃ e', evs[i]? = some e' := ⟨_, List.getElem?_eq_getElem hi⟩
     obtain ⟨d', hd'⟩ : ∃ d', dl[i]? = some d' := ⟨_, List.getElem?_eq_getElem (by omega)⟩
     have hz : (evs.zip dl)[i]? = some (e', d') := by rw [List.getElem?_zip_eq_some]; exact ⟨he', hd'⟩
     have hnx : depM evs dl (i + 1) = putK (depM evs dl i) e'.id d' := by
       unfold depM
       rw [List.take_add_one, hz, Option.toList_some, List.foldl_append]; rfl
     rw [hnx, lookD_put]
     by_cases hki : k = i
     · subst hki
       rw [he] at he'; injection he' with he'
       rw [hd] at hd'; injection hd' with hd'
       rw [he', if_pos rfl, hd']
     · have hlt : e.id < e'.id := Gm.pw_get hs (by omega : k < i) he he'
       rw [if_neg (by omega)]
       exact lookD_dep hs hl i k (by omega) he hd
   · have hz : (evs.zip dl)[i]? = none := by rw [List.getElem?_eq_none]; rw [List.length_zip]; omega
     have hkl := (List.getElem?_eq_some_iff.1 he).1
     have hnx : depM evs dl (i + 1) = depM evs dl i := by
       unfold depM
       rw [List.take_add_one, hz, Option.toList_none, List.append_nil]
     rw [hnx]
     exact lookD_dep hs hl i k (by omega) he hd
theorem evOf_at {g : Gr} {a : Int} (h : Gm.hasId g.events a = true) : ∃ e, g.events[Gm.fidE g.events a]? = some e ∧ evOf g a = e ∧ e.id = a := by
 obtain ⟨e, h1, h2⟩ := Gm.fid_get h
 refine ⟨e, h1, ?_, h2⟩
 unfold evOf
 rw [← fid_at h, h1]; rfl
theorem DD_at {g : Gr} (h : GG g) {a : Int} (ha : Gm.hasId g.events a = true) : ∃ d, (Gm.depthsE g.events)[Gm.fidE g.events a]? = some d ∧ lookD (DD g) (evOf g a).id 0 = d := by
 obtain ⟨e, h1, h2, h3⟩ := evOf_at ha
 have hl := Gm.fid_lt ha
 have hdl := (Gm.depths_ok g.events).len
 refine ⟨_, List.getElem?_eq_getElem (by omega), ?_⟩
 rw [h2]
 exact lookD_dep h.srt hdl _ _ hl h1 (List.getElem?_eq_getElem (by omega))
theorem lessB_eq {D : List (Int × Int)} {x y : Ev} : decide (cmpD D x y < 0) = if firstE x != firstE y then firstE x else if lookD D x.id 0 != lookD D y.id 0 then decide (lookD D x.id 0 < lookD D y.id 0) else if x.time != y.time then decide (x.time < y.time) else decide (x.id < y.id) := by
 rw [Bool.eq_iff_iff, decide_eq_true_eq, cmpD_iff]
 unfold fk
 have hsame : ∀ b : Bool, ((if b then (0 : Int) else 1) < (if b then 0 else 1)) = False := fun b => by cases b <;> simp
 have hb : ∀ b : Bool, (b != b) = false := fun b => by cases b <;> rfl
 have key : (lookD D x.id 0 < lookD D y.id 0 ∨ lookD D x.id 0 = lookD D y.id 0 ∧ (x.time < y.time ∨ x.time = y.time ∧ x.id < y.id)) ↔ (if (lookD D x.id 0 != lookD D y.id 0) = true then decide (lookD D x.id 0 < lookD D y.id 0) else if (x.time != y.time) = true then decide (x.time < y.time) else decide (x.id < y.id)) = true := by
   by_cases h1 : lookD D x.id 0 = lookD D y.id 0
   · rw [if_neg (by simp [h1])]
     by_cases h2 : x.time = y.time
     · rw [if_neg (by simp [h2]), decide_eq_true_eq]; omega
     · rw [if_pos (by simp [h2]), decide_eq_true_eq]; omega
   · rw [if_pos (by simp [h1]), decide_eq_true_eq]; omega
 cases hx : firstE x <;> cases hy : firstE y
 · rw [if_neg (c := (false != false) = true) (by decide), ← key]; simp
 · simp
 · simp
 · rw [if_neg (c := (true != true) = true) (by decide), ← key]; simp
section
variable {P : Program} [Is P]
theorem c_l06Heavy (e : Ev) : Con P 128 [.agg (encEv e)] (.bool (firstE e)) := by
 refine Con.of (n := 28) (rs := [.tmp 2]) (Is.fn Tryz.func128) rfl (Is.call Tryz.call128) Tryz.results128 Tryz.ntmps128 trivial ?_
 simp only [method_specs_simp, seval]
 simp only [method_specs_simp, seval, encEv]
 unfold firstE
 cases e.kind == 1 <;> cases e.kind == 3 <;> cases e.kind == 5 <;> cases e.kind == 2 <;> simp [method_specs_simp]
theorem c_l06Less (g : Gr) (h : GG g) (a b : Int) (ha : Gm.hasId g.events a = true) (hb : Gm.hasId g.events b = true) : Con P 87 [.agg (encGr g), .sl 1 ((Gm.depthsE g.events).map encI), .int .i64 a, .int .i64 b] (.bool (decide (cmpD (DD g) (evOf g a) (evOf g b) < 0))) := by
 have h60 := h.n
 obtain ⟨x, hx1, hx2, hx3⟩ := evOf_at ha
 obtain ⟨y, hy1, hy2, hy3⟩ := evOf_at hb
 obtain ⟨da, hda1, hda2⟩ := DD_at h ha
 obtain ⟨db, hdb1, hdb2⟩ := DD_at h hb
 have hal := Gm.fid_lt ha
 have hbl := Gm.fid_lt hb
 have hdl := (Gm.depths_ok g.events).len
 have hai : atI g.events a = ((Gm.fidE g.events a : Nat) : Int) := atI_yes ha
 have hbi : atI g.events b = ((Gm.fidE g.events b : Nat) : Int) := atI_yes hb
 obtain ⟨i, hi⟩ : ∃ i, i = Gm.fidE g.events a := ⟨_, rfl⟩
 obtain ⟨j, hj⟩ : ∃ j, j = Gm.fidE g.events b := ⟨_, rfl⟩
 obtain ⟨dl, hdd⟩ : ∃ dl, dl = Gm.depthsE g.events := ⟨_, rfl⟩
 rw [← hi] at hx1 hda1 hal hai
 rw [← hj] at hy1 hdb1 hbl hbi
 rw [← hdd] at hda1 hdb1 hdl ⊢
 rw [hx2] at hda2
 rw [hy2] at hdb2
 rw [hx2, hy2]
 refine Con.ofS (n := 74) (rs := [.tmp 8]) (Is.fn Tryz.func87) rfl (Is.call Tryz.call87) Tryz.results87 Tryz.ntmps87 trivial ?_
 refine SW.seq (CW.sound ?_)
 simp only [method_specs_simp, seval, encGr, encEv]
 refine SW.seq (CW.sound ?_)
 simp only [method_specs_simp, seval, encGr, encEv]
 refine ⟨by kernel_rfl, ?_⟩
 refine clY.con (c_l03At g.events a (by omega)) (by simp only [method_specs_simp, encGr, encEv]) ?_
 simp only [method_specs_simp, seval, encGr, encEv, hai]
 refine clY.con (c_l03At g.events b (by omega)) (by simp only [method_specs_simp, encGr, encEv]) ?_
 simp only [method_specs_simp, seval, encGr, encEv, hbi]
 refine SW.freeze [0] ?_
 simp only [mvcgen_simp, method_specs_simp, seval, encGr, encEv, convs_r8j, conv_junkj]
 refine SW.seq (SW.drawnK [5, 6, 7, 8, 9] 12 mixed (by kernel_rfl) (by kernel_rfl) (by kernel_rfl) ?_ ?_)
 · simp only [method_specs_simp, seval, encGr, encEv, List.getElem?_cons_succ, List.getElem?_cons_zero, hy1]
   exact ⟨by omega, by omega, by omega⟩
 show RQi P _ _ _ _ _
 simp only [method_specs_simp, seval, encGr, encEv, hx1, hy1]
 refine ⟨by omega, by omega, by omega, by omega, ?_⟩
 rw [lessB_eq, hda2, hdb2]
 refine CW.sound ?_
 simp only [method_specs_simp, seval, encGr, encEv, Bool.bne_true, Bool.bne_false]
 refine ⟨by kernel_rfl, ?_⟩
 refine clY.con (c_l06Heavy x) (by simp only [method_specs_simp, encGr, encEv, Bool.bne_true, Bool.bne_false]) ?_
 simp only [method_specs_simp, seval, encGr, encEv, Bool.bne_true, Bool.bne_false]
 refine clY.con (c_l06Heavy y) (by simp only [method_specs_simp, encGr, encEv, Bool.bne_true, Bool.bne_false]) ?_
 simp only [method_specs_simp, seval, encGr, encEv, Bool.bne_true, Bool.bne_false]
 cases hfx : firstE x <;> cases hfy : firstE y
 case false.true =>
   simp only [method_specs_simp, seval, encGr, encEv, Bool.bne_true, Bool.bne_false]
   refine clY.con (c_l06Heavy x) (by simp only [method_specs_simp, encGr, encEv, Bool.bne_true, Bool.bne_false]) ?_
   simp only [method_specs_simp, seval, encGr, encEv, Bool.bne_true, Bool.bne_false, hfx]
 case true.false =>
   simp only [method_specs_simp, seval, encGr, encEv, Bool.bne_true, Bool.bne_false]
   refine clY.con (c_l06Heavy x) (by simp only [method_specs_simp, encGr, encEv, Bool.bne_true, Bool.bne_false]) ?_
   simp only [method_specs_simp, seval, encGr, encEv, Bool.bne_true, Bool.bne_false, hfx]
 all_goals
   simp only [method_specs_simp, seval, encGr, encEv, Bool.bne_true, Bool.bne_false, hda1, hdb1, encI]
   refine ⟨by kernel_rfl, by omega, by omega, by omega, by omega, ?_⟩
   cases k1 : (da != db)
   · simp only [method_specs_simp, seval, encGr, encEv, Bool.bne_true, Bool.bne_false, k1]
     cases k2 : (x.time != y.time)
     · simp only [method_specs_simp, seval, encGr, encEv, Bool.bne_true, Bool.bne_false, k2]
     · simp only [method_specs_simp, seval, encGr, encEv, Bool.bne_true, Bool.bne_false, k2]
   · simp only [method_specs_simp, seval, encGr, encEv, Bool.bne_true, Bool.bne_false, k1, hda1, hdb1, encI]
     exact ⟨by kernel_rfl, by omega, by omega, by omega, by omega⟩
end
end Go.Proofs.YtdldgbkdcpdbeaaGreat
end

section
namespace Go.Proofs.YtdldgbkdcpdbeaaGreat
open Go.Pm
open Go.Gm (Ev Gr)
theorem GG.ids {g : Gr} (h : GG g) : ∀ e ∈ g.events, 0 < e.id := fun e he => by
 have := h.ev e he
 simp only [Gm.evRight, Bool.and_eq_true, Gm.isB_iff] at this
 omega
theorem SG.idpos {g : Gr} {s : List Ent} (h : GG g) (hs : SG g s) : ∀ x ∈ s, 0 < x.id := fun x hx => by
 obtain ⟨e, he, h1⟩ := (entOf_iff h).1 (hs.has x hx)
 have := h.ids e he
 have h2 : (entE e).id = x.id := by rw [h1]
 have h3 : e.id = x.id := h2
 omega
theorem ent_same {g : Gr} (h : GG g) {x y : Ent} (hx : entOf g x = true) (hy : entOf g y = true) (hid : x.id = y.id) : x = y := by
 obtain ⟨e1, he1, h1⟩ := (entOf_iff h).1 hx
 obtain ⟨e2, he2, h2⟩ := (entOf_iff h).1 hy
 have a1 : (entE e1).id = x.id := by rw [h1]
 have a2 : (entE e2).id = y.id := by rw [h2]
 have a3 : e1.id = e2.id := a1.trans (hid.trans a2.symm)
 have := at_mem h.srt he1
 rw [a3, at_mem h.srt he2] at this
 injection this with this
 rw [← h1, ← h2, this]
theorem srt_key {s : List Ent} (hs : s.Pairwise ltE) {x y : Ent} (hx : x ∈ s) (hy : y ∈ s) (h1 : x.kind = y.kind) (h2 : x.key = y.key) : x = y := by
 obtain ⟨i, hi⟩ := List.getElem?_of_mem hx
 obtain ⟨j, hj⟩ := List.getElem?_of_mem hy
 rcases Nat.lt_trichotomy i j with h | h | h
 · have := Gm.pw_get hs h hi hj
   unfold ltE at this; omega
 · subst h; rw [hi] at hj; injection hj
 · have := Gm.pw_get hs h hj hi
   unfold ltE at this; omega
theorem SG.LS {g : Gr} {s : List Ent} (h : GG g) (hs : SG g s) : LS g s := by
 refine ⟨⟨h.hx, h.srt, by have := SG.len h hs; omega, hs.srt⟩, fun k q => ?_⟩
 unfold idS curE idS
 cases hf : s.find? (isK k q) with
 | none =>
   refine Or.inl ⟨rfl, ?_⟩
   show atE g.events 0 = none
   refine List.find?_eq_none.2 fun e he => ?_
   have := h.ids e he
   simp only [beq_iff_eq]
   omega
 | some x =>
   have h1 := List.mem_of_find?_eq_some hf
   obtain ⟨e, he, h2⟩ := (entOf_iff h).1 (hs.has x h1)
   have h3 : (entE e).id = x.id := by rw [h2]
   refine Or.inr ⟨hs.idpos h x h1, ?_⟩
   show Gm.hasId g.events x.id = true
   rw [← h3]
   exact has_mem he
def alkS (l : List (List Ent)) (x : Ent) : Bool := l.all fun s => idS s x.kind x.key == x.id
theorem idS_in {s : List Ent} (hs : s.Pairwise ltE) {x : Ent} (hx : x.id ≠ 0) : (idS s x.kind x.key == x.id) = s.any (entEq x) := by
 rw [Bool.eq_iff_iff, beq_iff_eq, List.any_eq_true]
 unfold idS
 cases hf : s.find? (isK x.kind x.key) with
 | none =>
   constructor
   · intro h; exact absurd h.symm hx
   · rintro ⟨y, hy, h⟩
     have e := entEq_iff.1 h
     subst e
     have := List.find?_eq_none.1 hf x hy
     simp [isK] at this
 | some y =>
   have h1 := List.mem_of_find?_eq_some hf
   have h2 := List.find?_some hf
   unfold isK at h2
   simp only [Bool.and_eq_true, beq_iff_eq] at h2
   constructor
   · intro h
     refine ⟨y, h1, entEq_iff.2 ?_⟩
     obtain ⟨a, b, c⟩ := x
     obtain ⟨a', b', c'⟩ := y
     simp only at h h2
     rw [h, h2.1, h2.2]
   · rintro ⟨z, hz, h⟩
     have e := entEq_iff.1 h
     subst e
     have := srt_key hs h1 hz h2.1 h2.2
     rw [this]
theorem alk_miss {l : List (List Ent)} (hs : ∀ s ∈ l, s.Pairwise ltE) {x : Ent} (hx : x.id ≠ 0) : alkS l x = !missS l x := by
 unfold alkS missS
 rw [Bool.eq_iff_iff, List.all_eq_true, Bool.not_eq_true', List.any_eq_false]
 constructor
 · intro h s hm
   have := h s hm
   rw [idS_in (hs s hm) hx] at this
   simp [this]
 · intro h s hm
   rw [idS_in (hs s hm) hx]
   have := h s hm
   simpa using this
theorem miss_iff {l : List (List Ent)} {x : Ent} : missS l x = false ↔ ∀ s ∈ l, x ∈ s := by
 unfold missS
 rw [List.any_eq_false]
 constructor
 · intro h s hs
   have := h s hs
   simp only [Bool.not_eq_true', Bool.not_eq_false, List.any_eq_true] at this
   obtain ⟨y, hy, e⟩ := this
   rw [entEq_iff.1 e]; exact hy
 · intro h s hs
   simp only [Bool.not_eq_true', Bool.not_eq_false, List.any_eq_true]
   exact ⟨x, h s hs, entEq_iff.2 rfl⟩
def putR (o : List Ent) (x : Ent) : List Ent := putL (without o x) x
theorem putR_I {o : List Ent} (hs : o.Pairwise ltE) {x : Ent} (hx : x.id ≠ 0) : putR o x = putI o x := by
 rw [(put_same o x hs).1, putS, if_neg hx]; rfl
theorem putR_mem {o : List Ent} {x y : Ent} : y ∈ putR o x ↔ y = x ∨ (y ∈ o ∧ otherK x y = true) := by
 unfold putR putL
 have h1 : ∀ L : List Ent, ∀ k, y ∈ L.take k ++ x :: L.drop k ↔ y = x ∨ y ∈ L := fun L k => by
   conv => rhs; rw [← List.take_append_drop k L]
   simp only [List.mem_append, List.mem_cons]
   constructor
   · rintro (h | h | h)
     · exact .inr (.inl h)
     · exact .inl h
     · exact .inr (.inr h)
   · rintro (h | h | h)
     · exact .inr (.inl h)
     · exact .inl h
     · exact .inr (.inr h)
 rw [h1]
 unfold without
 rw [List.mem_filter]
theorem putR_len (o : List Ent) (x : Ent) : (putR o x).length ≤ o.length + 1 := by
 have h1 : (without o x).length ≤ o.length := List.length_filter_le _ _
 have h2 := lessN_le (without o x) x
 unfold putR putL
 simp only [List.length_append, List.length_cons, List.length_take, List.length_drop]
 omega
def stepA (l : List (List Ent)) (o : List Ent) (x : Ent) : List Ent := if alkS l x then putR o x else o
def stepB (l : List (List Ent)) (s : List Int) (x : Ent) : List Int := if alkS l x then s else setI s x.id
def outA (l : List (List Ent)) (p : List Ent) : List Ent := p.foldl (stepA l) []
def idsA (l : List (List Ent)) (p : List Ent) : List Int := p.foldl (stepB l) []
theorem outA_len (l : List (List Ent)) : ∀ (p o : List Ent), (p.foldl (stepA l) o).length ≤ o.length + p.length
 | [], o => Nat.le_refl _
 | x :: p, o => by
   have h1 : (stepA l o x).length ≤ o.length + 1 := by
     unfold stepA
     split
     · exact putR_len o x
     · omega
   have h2 := outA_len l p (stepA l o x)
   simp only [List.foldl_cons, List.length_cons]
   omega
theorem idsA_len (l : List (List Ent)) : ∀ (p : List Ent) (o : List Int), (p.foldl (stepB l) o).length ≤ o.length + p.length
 | [], o => Nat.le_refl _
 | x :: p, o => by
   have h1 : (stepB l o x).length ≤ o.length + 1 := by
     unfold stepB
     split
     · omega
     · exact setI_len o x.id
   have h2 := idsA_len l p (stepB l o x)
   simp only [List.foldl_cons, List.length_cons]
   omega
theorem ltE_str : Gm.Str ltE := ⟨fun x h => by unfold ltE at h; omega, fun x y z h1 h2 => ltE_trans h1 h2⟩
theorem ltE_nodup {l : List Ent} (h : l.Pairwise ltE) : l.Nodup := List.Pairwise.imp (fun h => ltE_ne h) h
theorem srt_same {l1 l2 : List Ent} (h1 : l1.Pairwise ltE) (h2 : l2.Pairwise ltE) (h : ∀ x, x ∈ l1 ↔ x ∈ l2) : l1 = l2 :=
 Gm.sorted_one ltE_str ((List.perm_ext_iff_of_nodup (ltE_nodup h1) (ltE_nodup h2)).2 h) h1 h2
section
variable {g : Gr} {l : List (List Ent)} (h : GG g) (hs : ∀ s ∈ l, SG g s)
include h hs
theorem flat_ent {x : Ent} (hx : x ∈ l.flatten) : entOf g x = true ∧ x.id ≠ 0 := by
 obtain ⟨s, hm, hxs⟩ := List.mem_flatten.1 hx
 have := (hs s hm).idpos h x hxs
 exact ⟨(hs s hm).has x hxs, by omega⟩
theorem alk_iff {x : Ent} (hx : x ∈ l.flatten) : alkS l x = true ↔ ∀ s ∈ l, x ∈ s := by
 rw [alk_miss (fun s hm => (hs s hm).srt) (flat_ent h hs hx).2, Bool.not_eq_true', miss_iff]
theorem outA_ok : ∀ (p o : List Ent), (∀ x ∈ p, x ∈ l.flatten) → o.Pairwise ltE → (∀ y ∈ o, y ∈ l.flatten ∧ alkS l y = true) →
   (p.foldl (stepA l) o).Pairwise ltE ∧ ∀ y, y ∈ p.foldl (stepA l) o ↔ y ∈ o ∨ (y ∈ p ∧ alkS l y = true)
 | [], o, _, ho, _ => ⟨ho, fun y => by simp⟩
 | x :: p, o, hp, ho, hoa => by
   have hx := hp x List.mem_cons_self
   have hstep : (stepA l o x).Pairwise ltE ∧ ∀ y, y ∈ stepA l o x ↔ y ∈ o ∨ (y = x ∧ alkS l y = true) := by
     unfold stepA
     split
     · rename_i ha
       refine ⟨by rw [putR_I ho (flat_ent h hs hx).2]; exact (put_same o x ho).2, fun y => ?_⟩
       rw [putR_mem]
       constructor
       · rintro (rfl | ⟨h1, _⟩)
         · exact .inr ⟨rfl, ha⟩
         · exact .inl h1
       · rintro (h1 | ⟨rfl, _⟩)
         · by_cases hk : otherK x y = true
           · exact .inr ⟨h1, hk⟩
           · left
             obtain ⟨g1, g2⟩ := hoa y h1
             obtain ⟨s, hm, hxs⟩ := List.mem_flatten.1 hx
             have hys := (alk_iff h hs g1).1 g2 s hm
             simp only [otherK, Bool.or_eq_true, bne_iff_ne, ne_eq, not_or, Decidable.not_not] at hk
             exact srt_key (hs s hm).srt hys hxs hk.1 hk.2
         · exact .inl rfl
     · rename_i ha
       refine ⟨ho, fun y => ⟨.inl, ?_⟩⟩
       rintro (h1 | ⟨rfl, h2⟩)
       · exact h1
       · exact absurd h2 ha
   obtain ⟨h1, h2⟩ := hstep
   obtain ⟨h3, h4⟩ := outA_ok p (stepA l o x) (fun y hy => hp y (List.mem_cons_of_mem _ hy)) h1 (fun y hy => by
     rcases (h2 y).1 hy with h | ⟨rfl, h⟩
     · exact hoa y h
     · exact ⟨hx, h⟩)
   refine ⟨h3, fun y => ?_⟩
   show y ∈ p.foldl (stepA l) (stepA l o x) ↔ _
   rw [h4, h2, List.mem_cons]
   constructor
   · rintro ((h | h) | h)
     · exact .inl h
     · exact .inr ⟨.inl h.1, h.2⟩
     · exact .inr ⟨.inr h.1, h.2⟩
   · rintro (h | ⟨h | h, k⟩)
     · exact .inl (.inl h)
     · exact .inl (.inr ⟨h, k⟩)
     · exact .inr ⟨h, k⟩
theorem com_mem {y : Ent} : y ∈ com l ↔ y ∈ l.flatten ∧ alkS l y = true := by
 constructor
 · intro hy
   have hf : y ∈ l.flatten ∧ missS l y = false := by
     unfold com at hy
     split at hy
     · cases hy
     · rename_i s l'
       obtain ⟨h1, h2⟩ := List.mem_filter.1 hy
       exact ⟨List.mem_flatten.2 ⟨s, List.mem_cons_self, h1⟩, by simpa using h2⟩
   exact ⟨hf.1, (alk_iff h hs hf.1).2 (miss_iff.1 hf.2)⟩
 · rintro ⟨h1, h2⟩
   have h3 := (alk_iff h hs h1).1 h2
   unfold com
   split
   · simp at h1
   · rename_i s l'
     exact List.mem_filter.2 ⟨h3 s List.mem_cons_self, by rw [miss_iff.2 h3]; rfl⟩
theorem outA_com : outA l l.flatten = com l := by
 obtain ⟨h1, h2⟩ := outA_ok h hs l.flatten [] (fun x hx => hx) List.Pairwise.nil (fun y hy => by cases hy)
 have hc : (com l).Pairwise ltE := by
   unfold com
   split
   · exact List.Pairwise.nil
   · rename_i s l'
     exact (hs s List.mem_cons_self).srt.sublist List.filter_sublist
 refine srt_same h1 hc fun y => ?_
 rw [com_mem h hs]
 show y ∈ l.flatten.foldl (stepA l) [] ↔ _
 rw [h2]
 simp
end
theorem idsA_ok {l : List (List Ent)} : ∀ (p : List Ent) (o : List Int), Rise o → Rise (p.foldl (stepB l) o) ∧ ∀ z, z ∈ p.foldl (stepB l) o ↔ z ∈ o ∨ ∃ x ∈ p, alkS l x = false ∧ x.id = z
 | [], o, ho => ⟨ho, fun z => by simp⟩
 | x :: p, o, ho => by
   have hstep : Rise (stepB l o x) ∧ ∀ z, z ∈ stepB l o x ↔ z ∈ o ∨ (alkS l x = false ∧ x.id = z) := by
     unfold stepB
     cases ha : alkS l x with
     | true => exact ⟨ho, fun z => by simp⟩
     | false =>
       refine ⟨setI_rise ho, fun z => ?_⟩
       simp only [Bool.false_eq_true, if_false, true_and]
       rw [setI_mem ho]
       constructor
       · rintro (h | h)
         · exact .inr h.symm
         · exact .inl h
       · rintro (h | h)
         · exact .inr h
         · exact .inl h.symm
   obtain ⟨h3, h4⟩ := idsA_ok p (stepB l o x) hstep.1
   refine ⟨h3, fun z => ?_⟩
   show z ∈ p.foldl (stepB l) (stepB l o x) ↔ _
   rw [h4, hstep.2]
   constructor
   · rintro ((h | h) | ⟨y, hy, h⟩)
     · exact .inl h
     · exact .inr ⟨x, List.mem_cons_self, h⟩
     · exact .inr ⟨y, List.mem_cons_of_mem _ hy, h⟩
   · rintro (h | ⟨y, hy, h⟩)
     · exact .inl (.inl h)
     · rcases List.mem_cons.1 hy with rfl | hy
       · exact .inl (.inr h)
       · exact .inr ⟨y, hy, h⟩
theorem metP_mem {met : List Int} {k z : Int} : z ∈ metP met k ↔ z ∈ met ∨ z = k := by
 unfold metP
 split
 · rename_i h
   have h := List.contains_iff_mem.1 h
   exact ⟨.inl, fun q => q.elim id fun e => e ▸ h⟩
 · simp
theorem idsM_mem : ∀ (l : List Ent) (met : List Int) {z : Int}, z ∈ l.foldl (fun m x => metP m x.id) met ↔ z ∈ met ∨ ∃ x ∈ l, x.id = z
 | [], met, z => by simp
 | x :: l, met, z => by
   rw [List.foldl_cons, idsM_mem l, metP_mem]
   constructor
   · rintro ((h | h) | ⟨y, hy, h⟩)
     · exact .inl h
     · exact .inr ⟨x, List.mem_cons_self, h.symm⟩
     · exact .inr ⟨y, List.mem_cons_of_mem _ hy, h⟩
   · rintro (h | ⟨y, hy, h⟩)
     · exact .inl (.inl h)
     · rcases List.mem_cons.1 hy with rfl | hy
       · exact .inl (.inr h.symm)
       · exact .inr ⟨y, hy, h⟩
theorem othI_mem : ∀ (l : List Ent) (met : List Int) {z : Int}, z ∈ othI met l ↔ z ∉ met ∧ ∃ x ∈ l, x.id = z
 | [], met, z => by simp [othI]
 | x :: l, met, z => by
   simp only [othI]
   split
   · rename_i hc
     have hc := List.contains_iff_mem.1 hc
     rw [othI_mem l]
     constructor
     · rintro ⟨h1, y, hy, h⟩
       exact ⟨h1, y, List.mem_cons_of_mem _ hy, h⟩
     · rintro ⟨h1, y, hy, h⟩
       rcases List.mem_cons.1 hy with rfl | hy
       · exact absurd (h ▸ hc) h1
       · exact ⟨h1, y, hy, h⟩
   · rename_i hc
     have hc : x.id ∉ met := fun q => hc (List.contains_iff_mem.2 q)
     rw [List.mem_cons, othI_mem l]
     constructor
     · rintro (rfl | ⟨h1, y, hy, h⟩)
       · exact ⟨hc, x, List.mem_cons_self, rfl⟩
       · exact ⟨fun q => h1 (List.mem_append_left _ q), y, List.mem_cons_of_mem _ hy, h⟩
     · rintro ⟨h1, y, hy, h⟩
       by_cases hz : z = x.id
       · exact .inl hz
       · refine .inr ⟨fun q => ?_, ?_⟩
         · rcases List.mem_append.1 q with q | q
           · exact h1 q
           · exact hz (by simpa using q)
         · rcases List.mem_cons.1 hy with rfl | hy
           · exact absurd h.symm hz
           · exact ⟨y, hy, h⟩
def posB (lt : Int → Int → Bool) (o : List Int) (x : Int) : Nat → Nat
 | 0 => 0
 | k + 1 => if lt x (o.getD k 0) then posB lt o x k else k + 1
def insB (lt : Int → Int → Bool) (o : List Int) (x : Int) : List Int := o.take (posB lt o x o.length) ++ x :: o.drop (posB lt o x o.length)
theorem posB_le (lt : Int → Int → Bool) (o : List Int) (x : Int) : ∀ k, posB lt o x k ≤ k
 | 0 => Nat.le_refl _
 | k + 1 => by
   unfold posB
   split
   · have := posB_le lt o x k; omega
   · exact Nat.le_refl _
theorem posB_ok (lt : Int → Int → Bool) (o : List Int) (x : Int) : ∀ k, (∀ j, posB lt o x k ≤ j → j < k → lt x (o.getD j 0) = true) ∧ (posB lt o x k = 0 ∨ lt x (o.getD (posB lt o x k - 1) 0) = false)
 | 0 => ⟨fun j h1 h2 => by omega, .inl rfl⟩
 | k + 1 => by
   unfold posB
   cases hl : lt x (o.getD k 0) with
   | true =>
     simp only [if_true]
     obtain ⟨h1, h2⟩ := posB_ok lt o x k
     refine ⟨fun j h3 h4 => ?_, h2⟩
     by_cases hj : j = k
     · rw [hj]; exact hl
     · exact h1 j h3 (by omega)
   | false =>
     simp only [Bool.false_eq_true, if_false]
     exact ⟨fun j h1 h2 => by omega, .inr hl⟩
theorem insB_perm (lt : Int → Int → Bool) (o : List Int) (x : Int) : (insB lt o x).Perm (x :: o) := by
 unfold insB
 refine List.perm_middle.trans (List.Perm.cons x ?_)
 rw [List.take_append_drop]
theorem insB_len (lt : Int → Int → Bool) (o : List Int) (x : Int) : (insB lt o x).length = o.length + 1 := by
 rw [(insB_perm lt o x).length_eq]; rfl
theorem insB_sorted {lt : Int → Int → Bool} {o : List Int} {x : Int} (hnt : ∀ a b c, lt a b = false → lt b c = false → lt a c = false) (has : ∀ a b, lt a b = true → lt b a = false) (ho : o.Pairwise fun a b => lt b a = false) :
   (insB lt o x).Pairwise fun a b => lt b a = false := by
 obtain ⟨h1, h2⟩ := posB_ok lt o x o.length
 have hle := posB_le lt o x o.length
 unfold insB
 generalize posB lt o x o.length = k at *
 have hb : ∀ y ∈ o.take k, lt x y = false := by
   intro y hy
   obtain ⟨j, hj, hjy⟩ := Gm.mem_take_get hy
   rcases h2 with h2 | h2
   · omega
   · by_cases hjk : j = k - 1
     · rw [← hjk, List.getD_eq_getElem?_getD, hjy] at h2
       exact h2
     · obtain ⟨z, hz⟩ : ∃ z, o[k - 1]? = some z := ⟨_, List.getElem?_eq_getElem (by omega)⟩
       rw [List.getD_eq_getElem?_getD, hz] at h2
       have h3 := Gm.pw_get ho (by omega : j < k - 1) hjy hz
       exact hnt x z y h2 h3
 have ha : ∀ y ∈ o.drop k, lt y x = false := by
   intro y hy
   obtain ⟨j, hj, hjy⟩ := Gm.mem_drop_get hy
   have h3 := h1 j hj (List.getElem?_eq_some_iff.1 hjy).1
   rw [List.getD_eq_getElem?_getD, hjy] at h3
   exact has x y h3
 refine List.pairwise_append.2 ⟨ho.sublist (List.take_sublist _ _), List.pairwise_cons.2 ⟨ha, ho.sublist (List.drop_sublist _ _)⟩, fun y hy z hz => ?_⟩
 rcases List.mem_cons.1 hz with rfl | hz
 · exact hb y hy
 · obtain ⟨i, hi, hiy⟩ := Gm.mem_take_get hy
   obtain ⟨j, hj, hjz⟩ := Gm.mem_drop_get hz
   exact Gm.pw_get ho (by omega : i < j) hiy hjz
def ltS (g : Gr) (a b : Int) : Bool := decide (cmpD (DD g) (evOf g a) (evOf g b) < 0)
def ordS (g : Gr) (ids : List Int) : List Int := ids.foldl (insB (ltS g)) []
theorem ordS_ok (g : Gr) : ∀ (ids o : List Int), (o.Pairwise fun a b => ltS g b a = false) → ((ids.foldl (insB (ltS g)) o).Pairwise fun a b => ltS g b a = false) ∧ (ids.foldl (insB (ltS g)) o).Perm (ids ++ o)
 | [], o, ho => ⟨ho, List.Perm.refl _⟩
 | x :: ids, o, ho => by
   have h1 := insB_sorted (lt := ltS g) (o := o) (x := x) (fun a b c h1 h2 => by
     simp only [ltS, decide_eq_false_iff_not] at *
     exact cmpD_nt h1 h2) (fun a b h1 => by
     simp only [ltS, decide_eq_false_iff_not, decide_eq_true_eq] at *
     exact fun h2 => cmpD_irr _ _ (cmpD_tr h1 h2)) ho
   obtain ⟨h2, h3⟩ := ordS_ok g ids (insB (ltS g) o x) h1
   refine ⟨h2, h3.trans ?_⟩
   refine ((insB_perm (ltS g) o x).append_left ids).trans ?_
   exact List.perm_middle
theorem ordS_ev {g : Gr} {l : List (List Ent)} (h : GG g) (hs : ∀ s ∈ l, SG g s) (hl : SL g l) : (ordS g (idsA l l.flatten)).map (evOf g) = ordR (DD g) (othE g l) := by
 obtain ⟨h1, h2⟩ := ordS_ok g (idsA l l.flatten) [] List.Pairwise.nil
 obtain ⟨h3, h4⟩ := idsA_ok (l := l) l.flatten [] List.Pairwise.nil
 have hnd : (idsA l l.flatten).Nodup := h3.nodup
 have hpm : (idsA l l.flatten).Perm (othI (idsM (com l)) l.flatten) := by
   refine (List.perm_ext_iff_of_nodup hnd (othI_spec _ _).1).2 fun z => ?_
   rw [othI_mem]
   show z ∈ l.flatten.foldl (stepB l) [] ↔ _
   rw [h4]
   have hcm : z ∈ idsM (com l) ↔ ∃ x ∈ com l, x.id = z := by
     unfold idsM
     rw [idsM_mem]
     simp
   rw [hcm]
   constructor
   · rintro (h | ⟨x, hx, ha, hz⟩)
     · cases h
     · refine ⟨?_, x, hx, hz⟩
       rintro ⟨c, hc, hcz⟩
       obtain ⟨c1, c2⟩ := (com_mem h hs).1 hc
       have := ent_same h (flat_ent h hs hx).1 (flat_ent h hs c1).1 (hz.trans hcz.symm)
       rw [this, c2] at ha
       cases ha
   · rintro ⟨h5, x, hx, hz⟩
     refine .inr ⟨x, hx, ?_, hz⟩
     cases ha : alkS l x with
     | false => rfl
     | true => exact absurd ⟨x, (com_mem h hs).2 ⟨hx, ha⟩, hz⟩ h5
 refine ordR_uniq (othE_nodup hl) ?_ ?_
 · unfold othE
   rw [List.append_nil] at h2
   exact (h2.trans hpm).map (evOf g)
 · rw [List.pairwise_map]
   refine List.Pairwise.imp (fun {a b} hab => ?_) h1
   simpa [ltS] using hab
theorem ordS_has {g : Gr} {l : List (List Ent)} (h : GG g) (hs : ∀ s ∈ l, SG g s) : ∀ id ∈ idsA l l.flatten, Gm.hasId g.events id = true := fun id hid => by
 obtain ⟨h3, h4⟩ := idsA_ok (l := l) l.flatten [] List.Pairwise.nil
 rcases (h4 id).1 hid with h5 | ⟨x, hx, _, rfl⟩
 · cases h5
 · obtain ⟨e, he, h6⟩ := (entOf_iff h).1 (flat_ent h hs hx).1
   have : e.id = x.id := by rw [← h6]; rfl
   rw [← this]
   exact has_mem he
section
variable {P : Program} [Is P]
theorem c_l06Alike (l : List (List Ent)) (x : Ent) (hl : l.length ≤ 60) (hs : ∀ s ∈ l, s.length ≤ 400) : Con P 85 [.sl 1 (l.map encSS), .agg (encEnt x)] (.bool (alkS l x)) := by
 refine Con.of (n := 24) (rs := [.tmp 4]) (Is.fn Tryz.func85) rfl (Is.call Tryz.call85) Tryz.results85 Tryz.ntmps85 trivial ?_
 simp only [method_specs_simp, seval, encEnt, encSS]
 refine SW.while (A := Nat) (fun i => ⟨pad 24 [.sl 1 (l.map encSS), .junk, .junk, .ptr 0 0, .bool false, .int .i64 i], [.box true (encEnt x)], []⟩) (fun i => l.length - i) (fun i => i ≤ l.length ∧ alkS l x = alkS (l.drop i) x) 0 [0] ⟨Nat.zero_le _, rfl⟩ ?_ ?_
 · simp only [mvcgen_simp, method_specs_simp, seval, encEnt, encSS]
 · rintro i ⟨hi, hr⟩
   have w1 : IntKind.i64.wrap ((i : Int) + 1) = ((i + 1 : Nat) : Int) := wadd1 i (by omega)
   refine CW.sound ?_
   simp only [method_specs_simp, seval, encEnt, encSS]
   refine gB_split (fun h1 => ?_) (fun h1 => ?_)
   · simp only [decide_eq_true_eq, Int.ofNat_lt] at h1
     obtain ⟨s, hsi⟩ : ∃ s, l[i]? = some s := ⟨_, List.getElem?_eq_getElem h1⟩
     have hsl := hs s (List.mem_of_getElem? hsi)
     simp only [method_specs_simp, seval, encEnt, encSS, hsi]
     refine ⟨by kernel_rfl, by omega, by omega, ?_⟩
     refine clY.con (c_l04At s x.kind x.key (by omega)) (by simp only [method_specs_simp, encEnt, encSS]) ?_
     simp only [method_specs_simp, seval, encEnt, encSS]
     have hcs : alkS (l.drop i) x = ((idS s x.kind x.key == x.id) && alkS (l.drop (i + 1)) x) := by rw [drop_cons hsi]; rfl
     cases hb : (idS s x.kind x.key == x.id) with
     | true =>
       have hb2 : (idS s x.kind x.key != x.id) = false := by unfold bne; rw [hb]; rfl
       rw [hb, Bool.true_and] at hcs
       simp only [method_specs_simp, seval, encEnt, encSS, hb2]
       refine Again.mk (i + 1) [0] ⟨h1, hr.trans hcs⟩ (Nat.sub_lt_sub_left h1 (Nat.lt_succ_self _)) ?_
       simp only [mvcgen_simp, method_specs_simp, seval, encEnt, encSS, w1]
     | false =>
       have hb2 : (idS s x.kind x.key != x.id) = true := by unfold bne; rw [hb]; rfl
       rw [hb, Bool.false_and] at hcs
       rw [hr, hcs]
       simp only [method_specs_simp, seval, encEnt, encSS, hb2]
   · have hi2 : i = l.length := by simp only [decide_eq_false_iff_not, Bool.not_true, Int.ofNat_lt] at h1; omega
     rw [hr, hi2, List.drop_length]
     rfl
end
end Go.Proofs.YtdldgbkdcpdbeaaGreat
end

section
namespace Go.Proofs.YtdldgbkdcpdbeaaGreat
open Go.Pm
open Go.Gm (Ev Gr)
set_option maxHeartbeats 2000000
theorem preL_len {l : List (List Ent)} (hn : l.length ≤ 60) (hl : ∀ s ∈ l, s.length ≤ 400) (i : Nat) {s : List Ent} (hs : s.length ≤ 400) (j : Nat) : (preL l i s j).length ≤ 24400 := by
 have h2 := flat_len (l := l.take i) fun s hs => hl s (List.mem_of_mem_take hs)
 have h4 : (l.take i).length ≤ l.length := by rw [List.length_take]; omega
 have h5 : (s.take j).length ≤ s.length := by rw [List.length_take]; omega
 unfold preL
 rw [List.length_append]
 omega
theorem outA_snoc (l : List (List Ent)) (p : List Ent) (x : Ent) : outA l (p ++ [x]) = stepA l (outA l p) x := by unfold outA; rw [List.foldl_append]; rfl
theorem idsA_snoc (l : List (List Ent)) (p : List Ent) (x : Ent) : idsA l (p ++ [x]) = stepB l (idsA l p) x := by unfold idsA; rw [List.foldl_append]; rfl
theorem ordS_next {g : Gr} {ids : List Int} {i : Nat} {x : Int} (h : ids[i]? = some x) : ordS g (ids.take (i + 1)) = insB (ltS g) (ordS g (ids.take i)) x := by
 unfold ordS
 rw [List.take_add_one, h, Option.toList_some, List.foldl_append]; rfl
theorem ordS_len (g : Gr) : ∀ ids : List Int, (ordS g ids).length = ids.length := fun ids => by
 have := (ordS_ok g ids [] List.Pairwise.nil).2.length_eq
 unfold ordS
 simpa using this
theorem ordS_mem (g : Gr) (ids : List Int) : ∀ x ∈ ordS g ids, x ∈ ids := fun x hx => by
 have := (ordS_ok g ids [] List.Pairwise.nil).2.mem_iff.1 hx
 simpa using this
section
variable {P : Program} [Is P]
theorem c_l06Resolve (g : Gr) (l : List (List Ent)) (h : GG g) (hs : ∀ s ∈ l, SG g s) (hn : l.length ≤ 60) : Con P 50 [.agg (encGr g), .sl 1 ((Gm.depthsE g.events).map encI), .sl 1 (l.map encSS)] (.sl 3 ((resI g (DD g) l).map encEnt)) := by
 have hl4 : ∀ s ∈ l, s.length ≤ 400 := fun s hm => by have := SG.len h (hs s hm); omega
 have h60 := h.n
 have hx := h.hx
 obtain ⟨dl, hdl⟩ : ∃ dl, dl = Gm.depthsE g.events := ⟨_, rfl⟩
 rw [← hdl]
 refine Con.ofS (n := 138) (rs := [.tmp 6]) (Is.fn Tryz.func50) rfl (Is.call Tryz.call50) Tryz.results50 Tryz.ntmps50 (by simp only [method_specs_simp]) ?_
 refine SW.seq (CW.sound ?_)
 simp only [method_specs_simp, seval, encGr]
 refine SW.seq (CW.sound ?_)
 simp only [method_specs_simp, seval, encGr]
 refine SW.seq (CW.sound ?_)
 simp only [method_specs_simp, seval, encGr]
 refine SW.freeze [1, 2] ?_
 simp only [mvcgen_simp, method_specs_simp, seval, encGr, convs_r8j, conv_junkj]
 refine SW.seq (CW.sound ?_)
 simp only [method_specs_simp, seval, encGr]
 refine SW.while (A := Nat) (fun i => ⟨pad 138 [.junk, .sl 1 (dl.map encI), .sl 1 (l.map encSS), .ptr 0 0, .junk, .junk, .nil, .sl 3 ((outA l (preL l i [] 0)).map encEnt), .sl 1 ((idsA l (preL l i [] 0)).map encI), .int .i64 i], [.box true (encGr g)], []⟩) (fun i => l.length - i) (fun i => i ≤ l.length) 0 [0] (Nat.zero_le _) ?_ ?_
 · have h0 : outA l (preL l 0 [] 0) = [] := rfl
   have h1 : idsA l (preL l 0 [] 0) = [] := rfl
   rw [h0, h1]
   simp only [mvcgen_simp, method_specs_simp, seval, encGr]
 · intro i hi
   have w1 : IntKind.i64.wrap ((i : Int) + 1) = ((i + 1 : Nat) : Int) := wadd1 i (by omega)
   refine CW.sound ?_
   simp only [method_specs_simp, seval, encGr]
   refine gB_split (fun h1 => ?_) (fun h1 => ?_)
   · simp only [decide_eq_true_eq, Int.ofNat_lt] at h1
     obtain ⟨s, hsi⟩ : ∃ s, l[i]? = some s := ⟨_, List.getElem?_eq_getElem h1⟩
     have hsm := List.mem_of_getElem? hsi
     have hsl := hl4 s hsm
     refine SW.while (A := Nat) (fun k => ⟨pad 138 [.junk, .sl 1 (dl.map encI), .sl 1 (l.map encSS), .ptr 0 0, .junk, .junk, .nil, .sl 3 ((outA l (preL l i s k)).map encEnt), .sl 1 ((idsA l (preL l i s k)).map encI), .int .i64 i, .int .i64 k], [.box true (encGr g)], []⟩) (fun k => s.length - k) (fun k => k ≤ s.length) 0 [0] (Nat.zero_le _) ?_ ?_
     · rw [preL_zero l i s]
       simp only [mvcgen_simp, method_specs_simp, seval, encGr]
     · intro k hk
       have hpl := preL_len hn hl4 i hsl k
       have hol := outA_len l (preL l i s k) []
       have hil := idsA_len l (preL l i s k) []
       rw [List.length_nil, Nat.zero_add] at hol hil
       have hol : (outA l (preL l i s k)).length ≤ 24400 := Nat.le_trans hol hpl
       have hil : (idsA l (preL l i s k)).length ≤ 24400 := Nat.le_trans hil hpl
       have w2 : IntKind.i64.wrap ((k : Int) + 1) = ((k + 1 : Nat) : Int) := wadd1 k (by omega)
       refine CW.sound ?_
       simp only [method_specs_simp, seval, encGr, hsi, encSS]
       refine ⟨by omega, by omega, ?_⟩
       refine gB_split (fun h2 => ?_) (fun h2 => ?_)
       · simp only [decide_eq_true_eq, Int.ofNat_lt] at h2
         obtain ⟨x, hxk⟩ : ∃ x, s[k]? = some x := ⟨_, List.getElem?_eq_getElem h2⟩
         have hstep := preL_step (l := l) (i := i) hxk
         have ho2 : outA l (preL l i s (k + 1)) = stepA l (outA l (preL l i s k)) x := by rw [hstep, outA_snoc]
         have hi2 : idsA l (preL l i s (k + 1)) = stepB l (idsA l (preL l i s k)) x := by rw [hstep, idsA_snoc]
         obtain ⟨o, ho⟩ : ∃ o, o = outA l (preL l i s k) := ⟨_, rfl⟩
         obtain ⟨ids, hids⟩ : ∃ ids, ids = idsA l (preL l i s k) := ⟨_, rfl⟩
         rw [← ho] at hol ho2 ⊢
         rw [← hids] at hil hi2 ⊢
         simp only [method_specs_simp, seval, encGr, hxk, encEnt, hsi, encSS]
         refine ⟨by omega, by omega, by omega, by omega, ?_⟩
         refine clY.con (c_l06Alike l x hn hl4) (by simp only [method_specs_simp, encEnt]) ?_
         cases ha : alkS l x with
         | true =>
           have e1 : stepA l o x = putR o x := by unfold stepA; rw [ha]; rfl
           have e2 : stepB l ids x = ids := by unfold stepB; rw [ha]; rfl
           rw [e1] at ho2
           rw [e2] at hi2
           simp only [method_specs_simp, seval, encGr, hxk, encEnt, hsi, encSS]
           refine ⟨by omega, by omega, by omega, by omega, ?_⟩
           refine clY.con (c117 o x (by omega)) (by simp only [method_specs_simp, encEnt]) ?_
           simp only [method_specs_simp, seval, encGr]
           refine Again.mk (k + 1) [0] h2 (Nat.sub_lt_sub_left h2 (Nat.lt_succ_self _)) ?_
           rw [ho2, hi2]
           simp only [mvcgen_simp, method_specs_simp, seval, encGr, w2, putR]
         | false =>
           have e1 : stepA l o x = o := by unfold stepA; rw [ha]; rfl
           have e2 : stepB l ids x = setI ids x.id := by unfold stepB; rw [ha]; rfl
           rw [e1] at ho2
           rw [e2] at hi2
           simp only [method_specs_simp, seval, encGr, hxk, encEnt, hsi, encSS]
           refine ⟨by omega, by omega, by omega, by omega, ?_⟩
           refine clY.con (c_l03Set ids x.id (by omega)) (by simp only [method_specs_simp, encGr]) ?_
           simp only [method_specs_simp, seval, encGr]
           refine Again.mk (k + 1) [0] h2 (Nat.sub_lt_sub_left h2 (Nat.lt_succ_self _)) ?_
           rw [ho2, hi2]
           simp only [mvcgen_simp, method_specs_simp, seval, encGr, w2]
       · have hk2 : k = s.length := by simp only [decide_eq_false_iff_not, Bool.not_true, Int.ofNat_lt] at h2; omega
         refine Again.mk (i + 1) [0] h1 (Nat.sub_lt_sub_left h1 (Nat.lt_succ_self _)) ?_
         rw [hk2, ← preL_next hsi]
         simp only [mvcgen_simp, method_specs_simp, seval, encGr, w1]
   · have hi2 : i = l.length := by simp only [decide_eq_false_iff_not, Bool.not_true, Int.ofNat_lt] at h1; omega
     rw [hi2, preL_all]
     have hcom := outA_com h hs
     have hall := ordS_has h hs
     have hidl : (idsA l l.flatten).length ≤ 24400 := by
       have a1 := idsA_len l l.flatten []
       have a2 := preL_len hn hl4 l.length (s := []) (Nat.zero_le _) 0
       rw [preL_all] at a2
       rw [List.length_nil, Nat.zero_add] at a1
       exact Nat.le_trans a1 a2
     have hres : resI g (DD g) l = ((ordS g (idsA l l.flatten)).map (evOf g)).foldl (stepR g) (outA l l.flatten) := by
       rw [ordS_ev h hs (SL.of h hn hs), outA_com h hs]; rfl
     have hsc : SG g (outA l l.flatten) := by
       rw [outA_com h hs]
       cases l with
       | nil => exact SG.nil g
       | cons s l =>
         have h1 := hs s List.mem_cons_self
         exact ⟨h1.srt.sublist List.filter_sublist, fun x hx => h1.has x (List.mem_filter.1 hx).1⟩
     rw [hres]
     obtain ⟨ids, hids⟩ : ∃ ids, ids = idsA l l.flatten := ⟨_, rfl⟩
     obtain ⟨o, ho⟩ : ∃ o, o = outA l l.flatten := ⟨_, rfl⟩
     rw [← hids] at hall hidl ⊢
     rw [← ho] at hsc ⊢
     refine SW.seq (CW.sound ?_)
     simp only [method_specs_simp, seval, encGr]
     refine SW.freeze [1] ?_
     simp only [mvcgen_simp, method_specs_simp, seval, encGr, convs_r8j, conv_junkj]
     refine SW.seq (CW.sound ?_)
     simp only [method_specs_simp, seval, encGr]
     refine SW.while (A := Nat) (fun i => ⟨pad 138 [.junk, .sl 1 (dl.map encI), .junk, .ptr 0 0, .junk, .junk, .nil, .sl 3 (o.map encEnt), .sl 1 (ids.map encI), .junk, .junk, .sl 1 ((ordS g (ids.take i)).map encI), .int .i64 i], [.box true (encGr g)], []⟩) (fun i => ids.length - i) (fun i => i ≤ ids.length) 0 [0] (Nat.zero_le _) ?_ ?_
     · have h0 : ordS g (ids.take 0) = [] := rfl
       rw [h0]
       simp only [mvcgen_simp, method_specs_simp, seval, encGr]
     · intro i hi
       have w1 : IntKind.i64.wrap ((i : Int) + 1) = ((i + 1 : Nat) : Int) := wadd1 i (by omega)
       have hol : (ordS g (ids.take i)).length = i := by rw [ordS_len, List.length_take]; omega
       refine SW.seq (CW.sound ?_)
       simp only [method_specs_simp, seval, encGr, hol]
       refine gB_split (fun h1 => ?_) (fun h1 => ?_)
       · simp only [decide_eq_true_eq, Int.ofNat_lt] at h1
         obtain ⟨x, hxi⟩ : ∃ x, ids[i]? = some x := ⟨_, List.getElem?_eq_getElem h1⟩
         have hox := hall x (List.mem_of_getElem? hxi)
         have hnx := ordS_next (g := g) hxi
         have hom : ∀ y ∈ ordS g (ids.take i), Gm.hasId g.events y = true := fun y hy => hall y (List.mem_of_mem_take (ordS_mem g _ y hy))
         obtain ⟨r, hr⟩ : ∃ r, r = ordS g (ids.take i) := ⟨_, rfl⟩
         rw [← hr] at hol hnx hom ⊢
         refine SW.seq (SW.block ?_)
         refine SW.seq (CW.sound ?_)
         simp only [method_specs_simp, seval, encGr, hol]
         refine SW.seq (CW.sound ?_)
         simp only [method_specs_simp, seval, encGr, hol]
         refine SW.while (A := Nat) (fun k => ⟨pad 138 [.junk, .sl 1 (dl.map encI), .junk, .ptr 0 0, .junk, .junk, .nil, .sl 3 (o.map encEnt), .sl 1 (ids.map encI), .junk, .junk, .sl 1 (r.map encI), .int .i64 i, .int .i64 k], [.box true (encGr g)], []⟩) (fun k => k) (fun k => k ≤ i ∧ posB (ltS g) r x r.length = posB (ltS g) r x k) i [0] ⟨Nat.le_refl _, by rw [hol]⟩ ?_ ?_
         · simp only [mvcgen_simp, method_specs_simp, seval, encGr, hol]
         · rintro k ⟨hk, hp⟩
           refine CW.sound ?_
           simp only [method_specs_simp, seval, encGr, hol]
           rcases Nat.eq_zero_or_pos k with rfl | hpos
           · rw [show posB (ltS g) r x 0 = 0 from rfl] at hp
             simp only [method_specs_simp, seval, encGr, hxi, encI]
             refine ⟨by kernel_rfl, ?_⟩
             have hall2 : [V.int .i64 x] :: r.map encI = (insB (ltS g) r x).map encI := by unfold insB; rw [hp, List.take_zero, List.drop_zero, List.nil_append, List.map_cons]; rfl
             have hins : (insB (ltS g) r x).length = i + 1 := by rw [insB_len]; omega
             refine CW.sound ?_
             simp only [method_specs_simp, seval, encGr, hxi, encI]
             refine ⟨by omega, by omega, by omega, by omega, by omega, by omega, by omega, ?_⟩
             rw [hall2]
             refine SW.freeze [5] ?_
             simp only [mvcgen_simp, method_specs_simp, seval, encGr, convs_r8j, conv_junkj]
             refine CW.sound ?_
             simp only [method_specs_simp, seval, encGr]
             refine Again.mk (i + 1) [0] h1 (Nat.sub_lt_sub_left h1 (Nat.lt_succ_self _)) ?_
             have e1 : List.take (1 + r.length) ((insB (ltS g) r x).map encI) = (insB (ltS g) r x).map encI := List.take_of_length_le (by rw [List.length_map]; omega)
             rw [hnx]
             simp only [mvcgen_simp, method_specs_simp, seval, encGr, w1, e1]
           · obtain ⟨j, hj⟩ : ∃ j, j = k - 1 := ⟨_, rfl⟩
             obtain ⟨y, hy⟩ : ∃ y, r[j]? = some y := ⟨_, List.getElem?_eq_getElem (by omega)⟩
             have hoy := hom y (List.mem_of_getElem? hy)
             have hgd : r.getD j 0 = y := by rw [List.getD_eq_getElem?_getD, hy]; rfl
             have w2 : IntKind.i64.wrap ((k : Int) - 1) = (j : Int) := by rw [hj]; exact wsub1 k (by omega) hpos
             have g1 : decide ((k : Int) > 0) = true := by simp; omega
             have hps : posB (ltS g) r x k = if ltS g x y = true then posB (ltS g) r x j else k := by
               have e : k = j + 1 := by omega
               rw [e, posB, hgd]
             simp only [method_specs_simp, seval, encGr, g1, w2, hol, hxi, hy, encI]
             refine ⟨by kernel_rfl, by omega, by omega, by omega, by omega, ?_⟩
             have hless := c_l06Less (P := P) g h x y hox hoy
             rw [← hdl] at hless
             refine clY.con hless (by simp only [method_specs_simp, encGr]) ?_
             have hlt : decide (cmpD (DD g) (evOf g x) (evOf g y) < 0) = ltS g x y := rfl
             rw [hlt]
             cases hl : ltS g x y with
             | true =>
               rw [hl, if_pos rfl] at hps
               simp only [method_specs_simp, seval, encGr, w2]
               have hp2 : posB (ltS g) r x i = posB (ltS g) r x j := by rw [← hol]; exact hp.trans hps
               refine Again.mk j [0] ⟨by omega, hp2⟩ (by omega) ?_
               simp only [mvcgen_simp, method_specs_simp, seval, encGr]
             | false =>
               rw [hl, if_neg (by decide)] at hps
               rw [hps] at hp
               have hlt : (r.take k).length = k := by rw [List.length_take]; omega
               have hld : (r.drop k).length = i - k := by rw [List.length_drop]; omega
               have hall2 : (r.take k).map encI ++ [[V.int .i64 x]] ++ (r.drop k).map encI = (insB (ltS g) r x).map encI := by unfold insB; rw [hp, List.map_append, List.map_cons, List.append_assoc]; rfl
               have hins : (insB (ltS g) r x).length = i + 1 := by rw [insB_len]; omega
               simp only [method_specs_simp, seval, encGr]
               refine CW.sound ?_
               simp only [method_specs_simp, seval, encGr, ← List.map_take, ← List.map_drop, List.take_length, hxi, encI, hlt, hld]
               refine ⟨by omega, by omega, by omega, by omega, by omega, by omega, by omega, by omega, by omega, by omega, by omega, by omega, by omega, ?_⟩
               rw [hall2]
               refine SW.freeze [5] ?_
               simp only [mvcgen_simp, method_specs_simp, seval, encGr, convs_r8j, conv_junkj]
               refine CW.sound ?_
               simp only [method_specs_simp, seval, encGr]
               refine Again.mk (i + 1) [0] h1 (Nat.sub_lt_sub_left h1 (Nat.lt_succ_self _)) ?_
               have e1 : List.take (k + 1 + (i - k)) ((insB (ltS g) r x).map encI) = (insB (ltS g) r x).map encI := List.take_of_length_le (by rw [List.length_map]; omega)
               rw [hnx]
               simp only [mvcgen_simp, method_specs_simp, seval, encGr, w1, e1]
       · have hi3 : i = ids.length := by simp only [decide_eq_false_iff_not, Bool.not_true, Int.ofNat_lt] at h1; omega
         rw [hi3, List.take_of_length_le (Nat.le_refl _)]
         have hom : ∀ y ∈ ordS g ids, Gm.hasId g.events y = true := fun y hy => hall y (ordS_mem g _ y hy)
         have hol : (ordS g ids).length = ids.length := ordS_len g ids
         obtain ⟨r, hr⟩ : ∃ r, r = ordS g ids := ⟨_, rfl⟩
         rw [← hr] at hol hom ⊢
         refine SW.seq (CW.sound ?_)
         simp only [method_specs_simp, seval, encGr]
         refine SW.while (A := Nat) (fun j => ⟨pad 138 [.junk, .junk, .junk, .ptr 0 0, .junk, .junk, .nil, .sl 3 ((((r.take j).map (evOf g)).foldl (stepR g) o).map encEnt), .junk, .junk, .junk, .sl 1 (r.map encI), .junk, .junk, .junk, .int .i64 j], [.box true (encGr g)], []⟩) (fun j => r.length - j) (fun j => j ≤ r.length) 0 [0] (Nat.zero_le _) ?_ ?_
         · simp only [mvcgen_simp, method_specs_simp, seval, encGr, List.take_zero, List.map_nil, List.foldl_nil]
         · intro j hj
           have w3 : IntKind.i64.wrap ((j : Int) + 1) = ((j + 1 : Nat) : Int) := wadd1 j (by omega)
           have hsg : SG g (((r.take j).map (evOf g)).foldl (stepR g) o) := foldR_SG h _ (fun e he => by
             obtain ⟨z, hz, rfl⟩ := List.mem_map.1 he
             obtain ⟨e, h1, h2, _⟩ := evOf_at (hom z (List.mem_of_mem_take hz))
             rw [h2]; exact List.mem_of_getElem? h1) hsc
           refine CW.sound ?_
           simp only [method_specs_simp, seval, encGr]
           refine gB_split (fun h2 => ?_) (fun h2 => ?_)
           · simp only [decide_eq_true_eq, Int.ofNat_lt] at h2
             obtain ⟨x, hxj⟩ : ∃ x, r[j]? = some x := ⟨_, List.getElem?_eq_getElem h2⟩
             have hox := hom x (List.mem_of_getElem? hxj)
             obtain ⟨e, he1, he2, he3⟩ := evOf_at hox
             have hem := List.mem_of_getElem? he1
             have hel := Gm.fid_lt hox
             have hai : atI g.events x = ((Gm.fidE g.events x : Nat) : Int) := atI_yes hox
             obtain ⟨f, hf⟩ : ∃ f, f = Gm.fidE g.events x := ⟨_, rfl⟩
             rw [← hf] at he1 hel hai
             have hnx : ((r.take (j + 1)).map (evOf g)).foldl (stepR g) o = stepR g (((r.take j).map (evOf g)).foldl (stepR g) o) e := by
               rw [List.take_add_one, hxj, Option.toList_some, List.map_append, List.foldl_append, List.map_singleton, he2]; rfl
             obtain ⟨u, hu⟩ : ∃ u, u = ((r.take j).map (evOf g)).foldl (stepR g) o := ⟨_, rfl⟩
             rw [← hu] at hsg hnx ⊢
             have hul := SG.len h hsg
             simp only [method_specs_simp, seval, encGr, encEv, hxj, encI]
             refine ⟨by kernel_rfl, by omega, by omega, ?_⟩
             refine clY.con (c_l03At g.events x (by omega)) (by simp only [method_specs_simp, encGr, encEv]) ?_
             simp only [method_specs_simp, seval, encGr, encEv, hai]
             simp only [method_specs_simp, seval, encGr, encEv, he1]
             refine ⟨by omega, by omega, ?_⟩
             refine clY.con (c_l05Allowed g u e (SG.LS h hsg)) (by simp only [method_specs_simp, encGr, encEv]) ?_
             cases hal : (allowedE g u e == 0) with
             | true =>
               have hst : stepR g u e = putR u (entE e) := by
                 have hid := h.ids e hem
                 unfold stepR
                 rw [hal, if_pos rfl, putR_I hsg.srt (by show e.id ≠ 0; omega)]
               rw [hst] at hnx
               simp only [method_specs_simp, seval, encGr, encEv, hal]
               refine clY.con (c117 u (entE e) (by omega)) (by simp only [method_specs_simp, encEnt, entE]) ?_
               simp only [method_specs_simp, seval, encGr, encEv]
               refine Again.mk (j + 1) [0] h2 (Nat.sub_lt_sub_left h2 (Nat.lt_succ_self _)) ?_
               rw [hnx]
               simp only [mvcgen_simp, method_specs_simp, seval, encGr, encEv, w3, putR]
             | false =>
               have hst : stepR g u e = u := by unfold stepR; rw [hal]; rfl
               rw [hst] at hnx
               simp only [method_specs_simp, seval, encGr, encEv, hal]
               refine Again.mk (j + 1) [0] h2 (Nat.sub_lt_sub_left h2 (Nat.lt_succ_self _)) ?_
               rw [hnx]
               simp only [mvcgen_simp, method_specs_simp, seval, encGr, encEv, w3]
           · have hj2 : j = r.length := by simp only [decide_eq_false_iff_not, Bool.not_true, Int.ofNat_lt] at h2; omega
             rw [hj2, List.take_of_length_le (Nat.le_refl _)]
             refine CW.sound ?_
             simp only [method_specs_simp, seval, encGr, encEv]
end
end Go.Proofs.YtdldgbkdcpdbeaaGreat
end

section
namespace Go.Proofs.YtdldgbkdcpdbeaaGreat
open Go.Pm
open Go.Gm (Ev Gr)
set_option maxHeartbeats 2000000
def hsG (g : Gr) : Hs := hsN g (DD g) (evsO g)
def oB (g : Gr) (A : List (Int × Option (List Ent))) : List (List V) := g.events.map fun e => [fS (lookD A e.id none)]
def oR (g : Gr) (R : List (Int × Int)) : List (List V) := g.events.map fun e => [V.int .i64 (lookD R e.id 0)]
theorem oB_len (g : Gr) (A : List (Int × Option (List Ent))) : (oB g A).length = g.events.length := List.length_map _
theorem oR_len (g : Gr) (R : List (Int × Int)) : (oR g R).length = g.events.length := List.length_map _
theorem oB_get {g : Gr} (A : List (Int × Option (List Ent))) {k : Nat} {e : Ev} (he : g.events[k]? = some e) : (oB g A)[k]? = some [fS (lookD A e.id none)] := by unfold oB; rw [List.getElem?_map, he]; rfl
theorem oR_get {g : Gr} (R : List (Int × Int)) {k : Nat} {e : Ev} (he : g.events[k]? = some e) : (oR g R)[k]? = some [V.int .i64 (lookD R e.id 0)] := by unfold oR; rw [List.getElem?_map, he]; rfl
theorem set_map {α : Type} {evs : List Ev} (hs : Gm.Srt evs) {k : Nat} {e : Ev} (he : evs[k]? = some e) (f f' : Ev → α) (h1 : ∀ x ∈ evs, x.id ≠ e.id → f' x = f x) : (evs.map f).set k (f' e) = evs.map f' := by
 apply List.ext_getElem?
 intro j
 rw [List.getElem?_set, List.length_map, List.getElem?_map, List.getElem?_map]
 have hkl := (List.getElem?_eq_some_iff.1 he).1
 by_cases hj : k = j
 · subst hj
   rw [if_pos rfl, if_pos hkl, he]; rfl
 · rw [if_neg hj]
   cases hx : evs[j]? with
   | none => rfl
   | some x =>
     have hne : x.id ≠ e.id := by
       rcases Nat.lt_or_gt_of_ne hj with h2 | h2
       · have := Gm.pw_get hs h2 he hx; omega
       · have := Gm.pw_get hs h2 hx he; omega
     simp only [Option.map_some, h1 x (List.mem_of_getElem? hx) hne]
theorem oB_set {g : Gr} (h : GG g) (A : List (Int × Option (List Ent))) {k : Nat} {e : Ev} (he : g.events[k]? = some e) (s : List Ent) : (oB g A).set k [V.sl 3 (s.map encEnt)] = oB g (putK A e.id (some s)) := by
 have := set_map h.srt he (fun e => [fS (lookD A e.id none)]) (fun x => [fS (lookD (putK A e.id (some s)) x.id none)]) (fun x _ hne => by rw [lookD_ne A e.id x.id (some s) none hne])
 rw [lookD_putK] at this
 exact this
theorem oR_set {g : Gr} (h : GG g) (R : List (Int × Int)) {k : Nat} {e : Ev} (he : g.events[k]? = some e) (c : Int) : (oR g R).set k [V.int .i64 c] = oR g (putK R e.id c) := by
 have := set_map h.srt he (fun e => [V.int .i64 (lookD R e.id 0)]) (fun x => [V.int .i64 (lookD (putK R e.id c) x.id 0)]) (fun x _ hne => by rw [lookD_ne R e.id x.id c 0 hne])
 rw [lookD_putK] at this
 exact this
theorem oB_put {g : Gr} (h : GG g) (A : List (Int × Option (List Ent))) {k : Nat} {e : Ev} (he : g.events[k]? = some e) (s : List Ent) : (oB g A).set k (V.sl 3 (s.map encEnt) :: List.drop 1 ((oB g A).getD k [])) = oB g (putK A e.id (some s)) := by
 rw [List.getD_eq_getElem?_getD, oB_get A he]
 exact oB_set h A he s
theorem oR_put {g : Gr} (h : GG g) (R : List (Int × Int)) {k : Nat} {e : Ev} (he : g.events[k]? = some e) (c : Int) : (oR g R).set k (V.int .i64 c :: List.drop 1 ((oR g R).getD k [])) = oR g (putK R e.id c) := by
 rw [List.getD_eq_getElem?_getD, oR_get R he]
 exact oR_set h R he c
theorem oB_refs (ok : Nat → Prop) (g : Gr) (A : List (Int × Option (List Ent))) : Refss ok (oB g A) = True := eq_true (Refss_map fun e => ⟨fS_ref ok _, trivial⟩)
theorem oR_refs (ok : Nat → Prop) (g : Gr) (R : List (Int × Int)) : Refss ok (oR g R) = True := eq_true (Refss_map fun e => ⟨trivial, trivial⟩)
theorem oB_rens (ρ : Nat → Nat) (g : Gr) (A : List (Int × Option (List Ent))) : renss ρ (oB g A) = oB g A := renss_map fun e => ⟨fS_ref _ _, trivial⟩
theorem oR_rens (ρ : Nat → Nat) (g : Gr) (R : List (Int × Int)) : renss ρ (oR g R) = oR g R := renss_map fun e => ⟨trivial, trivial⟩
theorem oB_nil (g : Gr) : List.replicate g.events.length [V.nil] = oB g [] := by
 unfold oB
 rw [show (fun e : Ev => [fS (lookD ([] : List (Int × Option (List Ent))) e.id none)]) = fun _ => [V.nil] from rfl, List.map_const']
theorem oR_nil (g : Gr) : List.replicate g.events.length [V.int .i64 0] = oR g [] := by
 unfold oR
 rw [show (fun e : Ev => [V.int .i64 (lookD ([] : List (Int × Int)) e.id 0)]) = fun _ => [V.int .i64 0] from rfl, List.map_const']
theorem oB_take (g : Gr) (A : List (Int × Option (List Ent))) : List.take g.events.length (oB g A) = oB g A := List.take_of_length_le (by rw [oB_len]; exact Nat.le_refl _)
theorem oR_take (g : Gr) (A : List (Int × Int)) : List.take g.events.length (oR g A) = oR g A := List.take_of_length_le (by rw [oR_len]; exact Nat.le_refl _)
attribute [mvcgen_simp, method_specs_simp] oB_refs oR_refs oB_rens oR_rens oB_len oR_len
theorem oB_cv {m : List Ob} {q : Nat} {g : Gr} (h : GG g) (A : List (Int × Option (List Ent))) {k : Nat} {e : Ev} (he : g.events[k]? = some e) {s : List Ent} (hm : m[q]? = some (.arr false 3 (s.map encEnt))) : (((oB g A).set k (V.ar q 0 s.length :: List.drop 1 ((oB g A).getD k []))).map fun x => x.map (conv m)) = oB g (putK A e.id (some s)) := by
 have h1 : List.drop 1 ((oB g A).getD k []) = [] := by rw [List.getD_eq_getElem?_getD, oB_get A he]; rfl
 have h2 : ((oB g A).map fun x => x.map (conv m)) = oB g A := by
   unfold oB
   rw [List.map_map]
   refine List.map_congr_left fun x _ => ?_
   show [conv m (fS (lookD A x.id none))] = [fS (lookD A x.id none)]
   cases lookD A x.id none <;> rfl
 have h3 : conv m (.ar q 0 s.length) = .sl 3 (s.map encEnt) := by
   simp only [conv, hm, List.drop_zero]
   rw [List.take_of_length_le (by rw [List.length_map]; exact Nat.le_refl _)]
 rw [h1, List.map_set, h2, List.map_cons, List.map_nil, h3]
 exact oB_set h A he s
theorem allowed_hide {g : Gr} {s : List Ent} {e : Ev} (h1 : (allowedE g s e == 0) = true) (h2 : (e.kind == 8) = true) : Gm.hasId g.events e.key = true := by
 have h8 : e.kind = 8 := by simpa using h2
 have h0 : allowedE g s e = 0 := by simpa using h1
 rw [← atE_has]
 cases ha : (atE g.events e.key).isSome with
 | true => rfl
 | false =>
   exfalso
   unfold allowedE at h0
   rw [h8, ha] at h0
   simp only [show ((8 : Int) == 1) = false from rfl, show ((8 : Int) == 2) = false from rfl, show ((8 : Int) == 3) = false from rfl, show ((8 : Int) == 4) = false from rfl, show ((8 : Int) == 5) = false from rfl, show ((8 : Int) == 6) = false from rfl, show ((8 : Int) == 8) = true from rfl, Bool.false_eq_true, if_false, Bool.false_and, Bool.or_self, if_true] at h0
   split at h0
   · omega
   · split at h0 <;> omega
def kS (g : Gr) (x : Hs) : V := .fptr [.sl 1 ((Gm.depthsE g.events).map encI), .sl 1 (oB g x.B), .sl 1 (oB g x.A), .sl 1 (oR g x.R)] 0
def kL (g : Gr) : V := .fptr [.sl 1 ((Gm.depthsE g.events).map encI), .ar 1 0 g.events.length, .ar 2 0 g.events.length, .ar 3 0 g.events.length] 0
def kM (g : Gr) (x : Hs) : List Ob := [.box true (encGr g), .arr true 1 (oB g x.B), .arr true 1 (oB g x.A), .arr true 1 (oR g x.R)]
theorem kS_ref (ok : Nat → Prop) (g : Gr) (x : Hs) : Ref ok (kS g x) := by
 simp only [kS, Refs, Ref, oB_refs, oR_refs, and_self, and_true]
 exact of_eq_true (encI_refs ok _)
section
variable {P : Program} [Is P]
theorem c_l06All (g : Gr) (h : GG g) : Con P 37 [.agg (encGr g)] (kS g (hsG g)) := by
 have h60 := h.n
 have hx := h.hx
 have hdn := (Gm.depths_ok g.events).len
 refine Con.ofS (n := 176) (rs := [.tmp 2]) (Is.fn Tryz.func37) rfl (Is.call Tryz.call37) Tryz.results37 Tryz.ntmps37 (kS_ref _ g _) ?_
 refine SW.seq (CW.sound ?_)
 simp only [method_specs_simp, seval, encGr]
 refine SW.seq (CW.sound ?_)
 simp only [method_specs_simp, seval, encGr]
 refine SW.seq (CW.sound ?_)
 simp only [method_specs_simp, seval, encGr]
 refine ⟨by kernel_rfl, ?_⟩
 refine clY.con (c_l03Depths g.events h.ok.1 h.ain) (by simp only [method_specs_simp]) ?_
 simp only [method_specs_simp, seval, encGr]
 refine ⟨by omega, by omega, by omega, by omega, by omega, by omega, by omega, by omega, by omega, ?_⟩
 refine SW.freeze [4] ?_
 simp only [mvcgen_simp, method_specs_simp, seval, encGr, convs_r8j, conv_junkj]
 refine SW.wk [0, 1, 2, 3] (st' := ⟨pad 176 [.junk, .ptr 0 0, .junk, .int .i64 g.events.length, kL g], kM g ⟨DD g, [], [], []⟩, []⟩) ?_ ?_
 · simp only [mvcgen_simp, method_specs_simp, seval, encGr, kL, kM, oB_nil, oR_nil]
 refine SW.seq (CW.sound ?_)
 simp only [method_specs_simp, seval, encGr, kM]
 refine clY.con (c_l03Sort g h.ok.1 h.ain h.pos) (by simp only [method_specs_simp, encGr]) ?_
 simp only [method_specs_simp, seval, encGr]
 refine SW.seq (CW.sound ?_)
 simp only [method_specs_simp, seval, encGr]
 refine SW.while (A := Nat) (fun i => ⟨pad 176 [.junk, .ptr 0 0, .junk, .int .i64 g.events.length, kL g, .sl 1 ((orderE g.events).map encI), .int .i64 i], kM g (hsN g (DD g) ((evsO g).take i)), []⟩) (fun i => g.events.length - i) (fun i => i ≤ g.events.length) 0 [0, 1, 2, 3] (Nat.zero_le _) ?_ ?_
 · have h0 : hsN g (DD g) ((evsO g).take 0) = ⟨DD g, [], [], []⟩ := rfl
   rw [h0]
   simp only [mvcgen_simp, method_specs_simp, seval, encGr, kM, kL]
 · intro i hi
   have w1 : IntKind.i64.wrap ((i : Int) + 1) = ((i + 1 : Nat) : Int) := wadd1 i (by omega)
   refine SW.seq (CW.sound ?_)
   simp only [method_specs_simp, seval, encGr]
   refine gB_split (fun h1 => ?_) (fun h1 => ?_)
   · simp only [decide_eq_true_eq, Int.ofNat_lt] at h1
     obtain ⟨id, hid⟩ : ∃ id, (orderE g.events)[i]? = some id := ⟨_, List.getElem?_eq_getElem (by rw [orderE_len]; exact h1)⟩
     obtain ⟨k', e, hk, hke', h3, h4, h5⟩ := order_place h hid
     have hev : (evsO g)[i]? = some e := by unfold evsO; rw [List.getElem?_map, hid, Option.map_some, h4]
     have hnx : hsN g (DD g) ((evsO g).take (i + 1)) = addH g (hsN g (DD g) ((evsO g).take i)) e := by rw [List.take_add_one, hev, Option.toList_some, hsN_snoc]
     have hDD : (hsN g (DD g) ((evsO g).take i)).D = DD g := hsN_D g (DD g) _ _
     obtain ⟨hi1, hi2⟩ := (HI.at_ h (DD g) i hi).sts (order_prev h hev)
     have hfour := h.four e h5
     have hhas : Gm.hasId g.events id = true := by rw [← h3]; exact has_mem h5
     have hai : atI g.events id = ((Gm.fidE g.events id : Nat) : Int) := atI_yes hhas
     have hke : g.events[Gm.fidE g.events id]? = some e := by
       obtain ⟨e2, he2, he3⟩ := Gm.fid_get hhas
       have a1 := at_mem h.srt (List.mem_of_getElem? he2)
       have a2 := at_mem h.srt h5
       rw [he3, ← h3, a2] at a1
       injection a1 with a1
       rw [he2, ← a1]
     have hkl := Gm.fid_lt hhas
     obtain ⟨k, hkk⟩ : ∃ k, k = Gm.fidE g.events id := ⟨_, rfl⟩
     rw [← hkk] at hai hke hkl
     have hsl : SL g (stsA (hsN g (DD g) ((evsO g).take i)).A e.prev) := SL.of h (by rw [stsA_len]; omega) hi2
     obtain ⟨x, hxx⟩ : ∃ x, x = hsN g (DD g) ((evsO g).take i) := ⟨_, rfl⟩
     rw [← hxx] at hi1 hi2 hsl hnx hDD ⊢
     refine SW.seq (SW.block ?_)
     refine SW.seq (CW.sound ?_)
     simp only [method_specs_simp, seval, encGr, encEv, kL, kM, hid, encI, orderE_len]
     refine ⟨by kernel_rfl, by omega, by omega, ?_⟩
     refine clY.con (c_l03At g.events id (by omega)) (by simp only [method_specs_simp, encGr, encEv, kL, kM]) ?_
     simp only [method_specs_simp, seval, encGr, encEv, kL, kM, hai]
     refine SW.seq (CW.sound ?_)
     simp only [method_specs_simp, seval, encGr, encEv, kL, kM, hke]
     refine ⟨by omega, by omega, ?_⟩
     refine SW.freeze [4] ?_
     simp only [mvcgen_simp, method_specs_simp, seval, encGr, encEv, kL, kM, convs_r8j, conv_junkj]
     refine SW.seq (CW.sound ?_)
     simp only [method_specs_simp, seval, encGr, encEv, kL, kM]
     refine SW.seq (CW.sound ?_)
     simp only [method_specs_simp, seval, encGr, encEv, kL, kM]
     have hSl : ∀ j, j ≤ e.prev.length → (stsA x.A (e.prev.take j)).length = j := fun j hj => by rw [stsA_len, List.length_take]; omega
     refine SW.while (A := Nat) (fun j => ⟨pad 176 [.junk, .ptr 0 0, .junk, .int .i64 g.events.length, kL g, .sl 1 ((orderE g.events).map encI), .int .i64 i, .int .i64 k, .fptr (encEv e) 0, .ar 4 0 j, .int .i64 j], kM g x ++ [.arr true 1 ((stsA x.A (e.prev.take j)).map encSS)], []⟩) (fun j => e.prev.length - j) (fun j => j ≤ e.prev.length) 0 [0, 1, 2, 3, 5] (Nat.zero_le _) ?_ ?_
     · have h0 : stsA x.A (e.prev.take 0) = [] := rfl
       rw [h0]
       simp only [mvcgen_simp, method_specs_simp, seval, encGr, encEv, kL, kM]
     · intro j hj
       have hjl := hSl j hj
       have w2 : IntKind.i64.wrap ((j : Int) + 1) = ((j + 1 : Nat) : Int) := wadd1 j (by omega)
       refine CW.sound ?_
       simp only [method_specs_simp, seval, encGr, encEv, kL, kM]
       refine gB_split (fun h2 => ?_) (fun h2 => ?_)
       · simp only [decide_eq_true_eq, Int.ofNat_lt] at h2
         obtain ⟨p, hp⟩ : ∃ p, e.prev[j]? = some p := ⟨_, List.getElem?_eq_getElem h2⟩
         have hpm := List.mem_of_getElem? hp
         obtain ⟨s, hsv⟩ := Option.isSome_iff_exists.1 (hi1 p hpm)
         have hph : Gm.hasId g.events p = true := by
           have := h.ain e h5
           rw [Gm.allIn, List.all_eq_true] at this
           exact this p hpm
         obtain ⟨ep, hep, hepi⟩ := Gm.fid_get hph
         have hpl := Gm.fid_lt hph
         have hpi : atI g.events p = ((Gm.fidE g.events p : Nat) : Int) := atI_yes hph
         obtain ⟨f, hf⟩ : ∃ f, f = Gm.fidE g.events p := ⟨_, rfl⟩
         rw [← hf] at hep hpl hpi
         have hget : (oB g x.A)[f]? = some [V.sl 3 (s.map encEnt)] := by rw [oB_get x.A hep, hepi, hsv]; rfl
         have hnS : stsA x.A (e.prev.take (j + 1)) = stsA x.A (e.prev.take j) ++ [s] := by unfold stsA; rw [List.take_add_one, hp, Option.toList_some, List.map_append, List.map_singleton, hsv]; rfl
         have e1 : (stsA x.A (e.prev.take j)).map encSS ++ [[V.sl 3 (s.map encEnt)]] = (stsA x.A (e.prev.take (j + 1))).map encSS := by rw [hnS, List.map_append]; rfl
         simp only [method_specs_simp, seval, encGr, encEv, kL, kM, hp, encI, hjl]
         refine ⟨by kernel_rfl, by omega, by omega, ?_⟩
         refine clY.con (c_l03At g.events p (by omega)) (by simp only [method_specs_simp, encGr, encEv, kL, kM]) ?_
         simp only [method_specs_simp, seval, encGr, encEv, kL, kM, hpi]
         simp only [method_specs_simp, seval, encGr, encEv, kL, kM, hget]
         refine ⟨by omega, by omega, hjl, by omega, by omega, ?_⟩
         rw [e1]
         refine Again.mk (j + 1) [0, 1, 2, 3, 6] h2 (Nat.sub_lt_sub_left h2 (Nat.lt_succ_self _)) ?_
         simp only [mvcgen_simp, method_specs_simp, seval, encGr, encEv, kL, kM, w2]
       · have hj2 : j = e.prev.length := by simp only [decide_eq_false_iff_not, Bool.not_true, Int.ofNat_lt] at h2; omega
         have htk : e.prev.take j = e.prev := by rw [hj2]; exact List.take_length
         rw [htk] at hjl ⊢
         obtain ⟨S, hS⟩ : ∃ S, S = stsA x.A e.prev := ⟨_, rfl⟩
         rw [← hS] at hjl hsl hi2 ⊢
         refine SW.freeze [4] ?_
         simp only [mvcgen_simp, method_specs_simp, seval, encGr, encEv, kL, kM, convs_r8j, conv_junkj]
         have e2 : List.take j (S.map encSS) = S.map encSS := List.take_of_length_le (by rw [List.length_map]; omega)
         rw [e2]
         have hsg : SG g (resI g (DD g) S) := resI_SG h hi2
         refine SW.seq (CW.sound ?_)
         simp only [method_specs_simp, seval, encGr, encEv, kL, kM]
         refine ⟨by kernel_rfl, ?_⟩
         refine clY.con (c_l06Resolve g S h hi2 (by omega)) (by simp only [method_specs_simp, encGr]) ?_
         obtain ⟨s, hs⟩ : ∃ s, s = resI g (DD g) S := ⟨_, rfl⟩
         rw [← hs] at hsg ⊢
         have hul := SG.len h hsg
         simp only [method_specs_simp, seval, encGr, encEv, kL, kM]
         refine ⟨by omega, by omega, by omega, ?_⟩
         rw [oB_put h x.B hke s]
         have hgB : (oB g (putK x.B e.id (some s)))[k]? = some [V.sl 3 (s.map encEnt)] := by rw [oB_get _ hke, lookD_putK]; rfl
         obtain ⟨B2, hB2⟩ : ∃ B2, B2 = putK x.B e.id (some s) := ⟨_, rfl⟩
         rw [← hB2] at hgB ⊢
         refine SW.seq (CW.sound ?_)
         simp only [method_specs_simp, seval, encGr, encEv, kL, kM, hgB]
         refine ⟨by kernel_rfl, by omega, by omega, ?_⟩
         refine clY.con (c_l05Allowed g s e (SG.LS h hsg)) (by simp only [method_specs_simp, encGr, encEv]) ?_
         simp only [method_specs_simp, seval, encGr, encEv, kL, kM]
         refine ⟨by omega, by omega, by omega, ?_⟩
         rw [oR_put h x.R hke (allowedE g s e)]
         have hgR : (oR g (putK x.R e.id (allowedE g s e)))[k]? = some [V.int .i64 (allowedE g s e)] := by rw [oR_get _ hke, lookD_putK]
         have hR3 : ∀ c, (oR g (putK x.R e.id (allowedE g s e))).set k (V.int .i64 c :: List.drop 1 ((oR g (putK x.R e.id (allowedE g s e))).getD k [])) = oR g (putK x.R e.id c) := fun c => by rw [oR_put h _ hke c, putK_putK]
         refine sw_meet ⟨pad 176 [.junk, .ptr 0 0, .junk, .int .i64 g.events.length, kL g, .sl 1 ((orderE g.events).map encI), .int .i64 i, .int .i64 k, .fptr (encEv e) 0], [.box true (encGr g), .arr true 1 (oB g B2), .arr true 1 (oB g x.A), .arr true 1 (oR g (putK x.R e.id (codeH g s e)))], []⟩ ?_ ?_
         · refine CW.sound ?_
           simp only [method_specs_simp, seval, encGr, encEv, kL, kM, hgR]
           refine ⟨by omega, by omega, ?_⟩
           cases k1 : (allowedE g s e == 0) with
           | false =>
             have hc : codeH g s e = allowedE g s e := by unfold codeH; rw [k1]; rfl
             simp only [method_specs_simp, seval, encGr, encEv, kL, kM]
             refine again_meet [0, 1, 2, 3] ?_
             rw [hc]
             simp only [mvcgen_simp, method_specs_simp, seval, encGr, encEv, kL, kM]
           | true =>
             simp only [method_specs_simp, seval, encGr, encEv, kL, kM, k1]
             cases k2 : (e.kind == 8) with
             | false =>
               have hc : codeH g s e = allowedE g s e := by unfold codeH; rw [k2]; simp
               simp only [method_specs_simp, seval, encGr, encEv, kL, kM, k2]
               refine again_meet [0, 1, 2, 3] ?_
               rw [hc]
               simp only [mvcgen_simp, method_specs_simp, seval, encGr, encEv, kL, kM]
             | true =>
               simp only [method_specs_simp, seval, encGr, encEv, kL, kM, k2]
               refine clY.con (c_l03Ahead g e.key e h h5 (allowed_hide k1 k2)) (by simp only [method_specs_simp, encGr]) ?_
               cases k3 : aheadE g e.key e with
               | true =>
                 have hc : codeH g s e = allowedE g s e := by unfold codeH; rw [k3]; simp
                 simp only [method_specs_simp, seval, encGr, encEv, kL, kM]
                 refine again_meet [0, 1, 2, 3] ?_
                 rw [hc]
                 simp only [mvcgen_simp, method_specs_simp, seval, encGr, encEv, kL, kM]
               | false =>
                 have hc : codeH g s e = 6 := by unfold codeH; rw [k3, k1, k2]; rfl
                 simp only [method_specs_simp, seval, encGr, encEv, kL, kM]
                 refine ⟨by omega, by omega, by omega, ?_⟩
                 rw [hR3]
                 refine again_meet [0, 1, 2, 3] ?_
                 rw [hc]
                 simp only [mvcgen_simp, method_specs_simp, seval, encGr, encEv, kL, kM]
         · have hcR : (oR g (putK x.R e.id (codeH g s e)))[k]? = some [V.int .i64 (codeH g s e)] := by rw [oR_get _ hke, lookD_putK]
           obtain ⟨R2, hR2⟩ : ∃ R2, R2 = putK x.R e.id (codeH g s e) := ⟨_, rfl⟩
           rw [← hR2] at hcR ⊢
           refine SW.seq (SW.drawnK [0, 1, 2, 3, 4] 13 mixed (by kernel_rfl) (by kernel_rfl) (by kernel_rfl) ?_ ?_)
           · simp only [method_specs_simp, seval, encGr, encEv, kL, kM, List.getElem?_cons_succ, List.getElem?_cons_zero]
           show RQi P _ _ _ _ _
           simp only [method_specs_simp, seval, encGr, encEv, kL, kM, hgB]
           refine ⟨by omega, by omega, by omega, by omega, by omega, by omega, by omega, ?_⟩
           refine SW.freeze [4] ?_
           simp only [mvcgen_simp, method_specs_simp, seval, encGr, encEv, kL, kM, convs_r8j, conv_junkj]
           refine SW.cvo 2 rfl (oB_cv h x.A hke rfl) ?_
           have hA3 : ∀ u, (oB g (putK x.A e.id (some s))).set k (V.sl 3 (u.map encEnt) :: List.drop 1 ((oB g (putK x.A e.id (some s))).getD k [])) = oB g (putK x.A e.id (some u)) := fun u => by rw [oB_put h _ hke u, putK_putK]
           have hend : ∀ b : Bool, (codeH g s e == 0 && decide (e.kind ≤ 6)) = b → behH g s e = if b then putI s (entE e) else s := fun b hb => by unfold behH; rw [hb]
           have hadd : addH g x e = ⟨DD g, B2, putK x.A e.id (some (behH g s e)), R2⟩ := by rw [hB2, hR2, hs, hS, ← hDD]; rfl
           refine CW.sound ?_
           simp only [method_specs_simp, seval, encGr, encEv, kL, kM, hcR]
           refine ⟨by omega, by omega, ?_⟩
           cases k1 : (codeH g s e == 0) with
           | false =>
             have hb := hend false (by rw [k1]; rfl)
             rw [if_neg (by decide)] at hb
             rw [hb] at hadd
             simp only [method_specs_simp, seval, encGr, encEv, kL, kM, k1]
             refine CW.sound ?_
             simp only [method_specs_simp, seval, encGr, encEv, kL, kM]
             refine Again.mk (i + 1) [0, 1, 2, 3] h1 (Nat.sub_lt_sub_left h1 (Nat.lt_succ_self _)) ?_
             rw [hnx, hadd]
             simp only [mvcgen_simp, method_specs_simp, seval, encGr, encEv, kL, kM, w1]
           | true =>
             cases k2 : decide (e.kind ≤ 6) with
             | false =>
               have hb := hend false (by rw [k1, k2]; rfl)
               rw [if_neg (by decide)] at hb
               rw [hb] at hadd
               simp only [method_specs_simp, seval, encGr, encEv, kL, kM, k1, k2]
               refine CW.sound ?_
               simp only [method_specs_simp, seval, encGr, encEv, kL, kM]
               refine Again.mk (i + 1) [0, 1, 2, 3] h1 (Nat.sub_lt_sub_left h1 (Nat.lt_succ_self _)) ?_
               rw [hnx, hadd]
               simp only [mvcgen_simp, method_specs_simp, seval, encGr, encEv, kL, kM, w1]
             | true =>
               have hb := hend true (by rw [k1, k2]; rfl)
               rw [if_pos rfl] at hb
               have hid := h.ids e h5
               rw [hb, ← putR_I hsg.srt (show (entE e).id ≠ 0 by show e.id ≠ 0; omega)] at hadd
               simp only [method_specs_simp, seval, encGr, encEv, kL, kM, k1, k2, hgB]
               refine ⟨by kernel_rfl, by omega, by omega, ?_⟩
               refine clY.con (c117 s (entE e) (by omega)) (by simp only [method_specs_simp, encEnt, entE]) ?_
               simp only [method_specs_simp, seval, encGr, encEv, kL, kM]
               refine ⟨by omega, by omega, by omega, ?_⟩
               have hA4 := hA3 (putR s (entE e))
               unfold putR at hA4
               rw [hA4]
               refine CW.sound ?_
               simp only [method_specs_simp, seval, encGr, encEv, kL, kM]
               refine Again.mk (i + 1) [0, 1, 2, 3] h1 (Nat.sub_lt_sub_left h1 (Nat.lt_succ_self _)) ?_
               rw [hnx, hadd]
               simp only [mvcgen_simp, method_specs_simp, seval, encGr, encEv, kL, kM, w1, putR]
   · have hi3 : i = g.events.length := by simp only [decide_eq_false_iff_not, Bool.not_true, Int.ofNat_lt] at h1; omega
     have hev : (evsO g).take i = evsO g := List.take_of_length_le (by rw [evsO_len, hi3]; exact Nat.le_refl _)
     rw [hev]
     obtain ⟨x, hxx⟩ : ∃ x, x = hsN g (DD g) (evsO g) := ⟨_, rfl⟩
     have hfin : hsG g = x := hxx.symm
     rw [hfin, ← hxx]
     refine SW.freeze [1, 2, 3] ?_
     simp only [mvcgen_simp, method_specs_simp, seval, encGr, kL, kM, convs_r8j, conv_junkj]
     refine sw_deep 2 ?_
     simp only [mvcgen_simp, method_specs_simp, seval, encGr, kL, kM, map_r8, List.map_cons, List.map_nil]
     refine CW.sound ?_
     simp only [method_specs_simp, seval, encGr, kL, kM, kS, oB_take, oR_take]
end
end Go.Proofs.YtdldgbkdcpdbeaaGreat
end

section
namespace Go.Proofs.YtdldgbkdcpdbeaaGreat
open Go.Pm
open Go.Gm (Ev Gr)
set_option maxHeartbeats 1000000
def thereG (g : Gr) (id : Int) : Bool := Gm.grRight g && Gm.hasId g.events id
def refG (g : Gr) (id : Int) : Int := if thereG g id then lookD (hsG g).R id 0 else -1
section
variable {P : Program} [Is P]
end
end Go.Proofs.YtdldgbkdcpdbeaaGreat
end

section
namespace Go.Proofs.YtdldgbkdcpdbeaaGreat
open Go.Pm
open Go.Gm (Ev Gr)
set_option maxHeartbeats 4000000
def aheadG (g : Gr) (id : Int) : List Ent := (lookD (hsG g).B id none).getD []
def behindG (g : Gr) (id : Int) : List Ent := (lookD (hsG g).A id none).getD []
theorem hsG_in {g : Gr} (h : GG g) {id : Int} (hi : Gm.hasId g.events id = true) : (lookD (hsG g).B id none = some (aheadG g id) ∧ SG g (aheadG g id)) ∧ (lookD (hsG g).A id none = some (behindG g id) ∧ SG g (behindG g id)) := by
 have hI := HI.at_ h (DD g) g.events.length (Nat.le_refl _)
 rw [List.take_of_length_le (by rw [orderE_len]; exact Nat.le_refl _), List.take_of_length_le (by rw [evsO_len]; exact Nat.le_refl _)] at hI
 have hm : id ∈ orderE g.events := by
   obtain ⟨e, he, hid⟩ := Gm.hasId_iff.1 hi
   obtain ⟨z, hz, hze⟩ := List.mem_map.1 (evsO_all h e he)
   obtain ⟨i, hzi⟩ := List.getElem?_of_mem hz
   obtain ⟨k, e', _, _, h1, h2, _⟩ := order_place h hzi
   rw [← hid, ← hze, h2, h1]; exact hz
 obtain ⟨s, h1, h2⟩ := hI.B id hm
 obtain ⟨u, h3, h4⟩ := hI.A id hm
 have e1 : lookD (hsG g).B id none = some s := h1
 have e2 : lookD (hsG g).A id none = some u := h3
 unfold aheadG behindG
 rw [e1, e2]
 exact ⟨⟨rfl, h2⟩, rfl, h4⟩
section
variable {P : Program} [Is P]
theorem c_eqNilE : Con P 16 [.nil, .sl 3 (([] : List Ent).map encEnt)] (.bool true) := by
 have h := c57 (P := P) [] [] (by decide)
 rw [eqEntS_same] at h
 exact h.weak (VLes.cons (VLe.nil 3) (VLes.same VLes.nil))
theorem c_heldNilE (k : Int) (h0 : 0 ≤ k) (h1 : k < 2 ^ 40) : Con P 19 [.nil, .int .i64 k] (.int .i64 k) := by
 have h := c121 (P := P) k 0 h0 (by omega) (by decide)
 rw [show k + 3 * ((0 : Nat) : Int) = k by omega] at h
 exact h.weak (VLes.cons (VLe.nil 3) (VLes.same VLes.nil))
end
end Go.Proofs.YtdldgbkdcpdbeaaGreat
end

section
namespace Go.Proofs.YtdldgbkdcpdbeaaGreat
open Go.Pm
set_option maxHeartbeats 2000000
def keptI (p : Int → Bool) (xs : List Int) : List Int := xs.filter fun x => !p x
theorem keptI_le (p : Int → Bool) (xs : List Int) : (keptI p xs).length ≤ xs.length := List.length_filter_le _ _
theorem keptI_snoc (p : Int → Bool) (xs : List Int) (x : Int) : keptI p (xs ++ [x]) = keptI p xs ++ (if p x then [] else [x]) := by
 unfold keptI
 rw [List.filter_append]
 congr 1
 cases h : p x <;> simp [h]
theorem any_none {p : Int → Bool} {xs : List Int} (h : xs.any p = false) : keptI p xs = xs := by
 unfold keptI
 rw [List.any_eq_false] at h
 refine List.filter_eq_self.2 fun x hx => ?_
 have := h x hx
 simpa using this
theorem any_some {p : Int → Bool} : ∀ {xs : List Int}, xs.any p = true → ∃ a x b, xs = a ++ x :: b ∧ xs.findIdx p = a.length ∧ keptI p a = a ∧ p x = true
 | [], h => by simp at h
 | x :: xs, h => by
   cases hx : p x with
   | true => exact ⟨[], x, xs, rfl, by rw [List.findIdx_cons, hx]; rfl, rfl, hx⟩
   | false =>
     rw [List.any_cons, hx, Bool.false_or] at h
     obtain ⟨a, y, b, h1, h2, h3, h4⟩ := any_some h
     refine ⟨x :: a, y, b, by rw [h1]; rfl, by rw [List.findIdx_cons, hx, h2]; rfl, ?_, h4⟩
     unfold keptI at h3 ⊢
     rw [List.filter_cons_of_pos (by simp [hx]), h3]
section
variable {P : Program} [Is P]
theorem n_deleteI (xs zs : List Int) (f : FuncId) (cs : List V) (p : Int → Bool) (hc : Refs (fun _ => False) cs) (hf : ∀ x ∈ xs, Con P f ([.int .i64 x] ++ [.fptr cs 0]) (.bool (p x))) (hx : xs.length < 2 ^ 40) (hz : xs.length + zs.length < 2 ^ 40) :
   LCon P 146 [.ar 0 0 xs.length, .fn f [] [.fptr cs 0]] [.arr true 1 ((xs ++ zs).map encI)] (.ar 0 0 (keptI p xs).length) [.arr true 1 ((keptI p xs ++ (List.replicate (xs.length - (keptI p xs).length) 0 ++ zs)).map encI)] := by
 have hrc : rens (idx [0]) cs = cs := rens_pure cs hc
 have href : ∀ ok : Nat → Prop, Refs ok cs := fun ok => Refs.mono (fun _ h => h.elim) _ hc
 have hll : ((xs ++ zs).map encI).length = xs.length + zs.length := by simp
 refine LCon.of (n := 42) (rs := [.tmp 4]) (Is.fn Tryz.func146) rfl (Is.call Tryz.call146) Tryz.results146 Tryz.ntmps146 ?_
 simp only [method_specs_simp, seval]
 have htx : List.take xs.length ((xs ++ zs).map encI) = xs.map encI := by rw [← List.map_take, List.take_left]
 refine clY.conF (c_indexFI xs f [.fptr cs 0] p ⟨hc, trivial⟩ hf (by omega)) (by simp only [method_specs_simp, seval, htx]) ⟨of_eq_true (encI_refs _ xs), ⟨trivial, hc, trivial⟩, trivial⟩ trivial ?_
 simp only [method_specs_simp, seval]
 cases hg : xs.any p with
 | false =>
   have e : keptI p xs = xs := any_none hg
   have hi : idxP p xs = -1 := by unfold idxP; rw [hg]; rfl
   rw [e, hi]
   simp only [method_specs_simp, seval]
   refine LResY.mk [0] ?_
   rw [Nat.sub_self, List.replicate_zero, List.nil_append]
   simp only [mvcgen_simp, method_specs_simp, seval]
 | true =>
   obtain ⟨a, x0, b, hab, hi0, ha, hx0⟩ := any_some hg
   obtain ⟨i0, hi1⟩ : ∃ i0, i0 = a.length := ⟨_, rfl⟩
   have hi : idxP p xs = (i0 : Int) := by unfold idxP; rw [hg, hi0, hi1]; rfl
   have hne : ((i0 : Int) == -1) = false := by rw [beq_eq_false_iff_ne]; omega
   have hlen : xs.length = a.length + 1 + b.length := by rw [hab]; simp; omega
   have htk : xs.take (i0 + 1) = a ++ [x0] := by
     rw [hab, hi1, List.take_append, List.take_of_length_le (by omega)]
     simp
   have hk0 : keptI p (xs.take (i0 + 1)) = a := by rw [htk, keptI_snoc, ha, if_pos hx0, List.append_nil]
   have w0 : IntKind.i64.wrap ((i0 : Int) + 1) = ((i0 + 1 : Nat) : Int) := wadd1 i0 (by omega)
   obtain ⟨j0, hj0⟩ : ∃ j0, j0 = i0 + 1 := ⟨_, rfl⟩
   rw [hi]
   rw [← hj0] at w0 htk hk0
   simp only [method_specs_simp, seval, hne, w0]
   refine SW.while (A := Nat × List Int) (fun q => ⟨pad 42 [.ar 0 0 xs.length, .fn f [] [.fptr cs 0], .junk, .junk, .nil, .int .i64 (keptI p (xs.take q.1)).length, .int .i64 q.1], [.arr true 1 ((q.2 ++ zs).map encI)], [.ar 0 0 (xs.length + zs.length), .eptr 0 1 0]⟩)
     (fun q => xs.length - q.1) (fun q => q.1 ≤ xs.length ∧ (keptI p (xs.take q.1)).length < q.1 ∧ q.2.length = xs.length ∧ q.2.take (keptI p (xs.take q.1)).length = keptI p (xs.take q.1) ∧ q.2.drop q.1 = xs.drop q.1) (j0, xs) [0] ?_ ?_ ?_
   · rw [hk0]
     refine ⟨by omega, by omega, rfl, ?_, rfl⟩
     rw [hab, List.take_append, List.take_of_length_le (Nat.le_refl _)]
     simp
   · rw [hk0, ← hi1]
     simp only [mvcgen_simp, method_specs_simp, seval, href, hrc]
   · rintro ⟨j, ys⟩ ⟨hj, hlt, hy, h1, h2⟩
     simp only at hj hlt hy h1 h2
     have wj : IntKind.i64.wrap ((j : Int) + 1) = ((j + 1 : Nat) : Int) := wadd1 j (by omega)
     refine CW.sound ?_
     simp only [method_specs_simp, seval]
     refine gB_split (fun h => ?_) (fun h => ?_)
     · simp only [decide_eq_true_eq, Int.ofNat_lt] at h
       obtain ⟨x, hxk⟩ : ∃ x, xs[j]? = some x := ⟨_, List.getElem?_eq_getElem h⟩
       have hyk : ys[j]? = some x := by
         have := congrArg (fun l => l[0]?) h2
         simp only [List.getElem?_drop, Nat.add_zero] at this
         rw [this]; exact hxk
       have hyz : (ys ++ zs)[j]? = some x := by rw [List.getElem?_append_left (by omega)]; exact hyk
       have hks : keptI p (xs.take (j + 1)) = keptI p (xs.take j) ++ (if p x then [] else [x]) := by rw [List.take_add_one, hxk, Option.toList_some, keptI_snoc]
       have hd2 : ys.drop (j + 1) = xs.drop (j + 1) := by
         have := congrArg (List.drop 1) h2
         rwa [List.drop_drop, List.drop_drop] at this
       obtain ⟨c, hc1⟩ : ∃ c, c = keptI p (xs.take j) := ⟨_, rfl⟩
       rw [← hc1] at hlt h1 hks ⊢
       have wc : IntKind.i64.wrap ((c.length : Int) + 1) = ((c.length + 1 : Nat) : Int) := wadd1 c.length (by omega)
       simp only [method_specs_simp, seval, hyz, encI]
       refine ⟨by omega, by omega, ?_⟩
       refine clY.conC (hf x (List.mem_of_getElem? hxk)) rfl ⟨trivial, hc, trivial⟩ ?_
       cases hp : p x with
       | false =>
         rw [hp, if_neg (by decide)] at hks
         have hcl : c.length < (ys ++ zs).length := by rw [List.length_append]; omega
         have eg : ((ys ++ zs).map encI).getD c.length [] = encI ((ys ++ zs)[c.length]'hcl) := by
           rw [List.getD_eq_getElem?_getD, List.getElem?_map, List.getElem?_eq_getElem hcl]; rfl
         simp only [method_specs_simp, seval, wj, eg, encI]
         refine ⟨by omega, by omega, by omega, ?_⟩
         refine Again.mk (j + 1, ys.set c.length x) [0] ⟨h, by rw [hks]; simp; omega, by simpa using hy, ?_, ?_⟩ (Nat.sub_lt_sub_left h (Nat.lt_succ_self _)) ?_
         · rw [hks, List.length_append, List.length_singleton, take_set' (by omega), h1]
         · rw [List.drop_set_of_lt (by omega)]; exact hd2
         · have e : ((ys ++ zs).map encI).set c.length [V.int IntKind.i64 x] = ((ys.set c.length x) ++ zs).map encI := by
             rw [← List.set_append_left _ _ (by omega), List.map_set]; rfl
           have hks2 : (keptI p (xs.take (j + 1))).length = c.length + 1 := by rw [hks, List.length_append, List.length_singleton]
           rw [e]
           simp only [hks2]
           simp only [mvcgen_simp, method_specs_simp, seval, wc, href, hrc]
       | true =>
         rw [hp, if_pos rfl, List.append_nil] at hks
         simp only [method_specs_simp, seval, wj]
         refine Again.mk (j + 1, ys) [0] ⟨h, by rw [hks]; omega, hy, by rw [hks]; exact h1, hd2⟩ (Nat.sub_lt_sub_left h (Nat.lt_succ_self _)) ?_
         rw [hks]
         simp only [mvcgen_simp, method_specs_simp, seval, href, hrc]
     · simp only [decide_eq_false_iff_not, Bool.not_true, Int.ofNat_lt] at h
       have hje : j = xs.length := by omega
       rw [hje, List.take_of_length_le (Nat.le_refl _)] at h1 ⊢
       have hkl := keptI_le p xs
       refine ⟨by omega, by omega, by omega, by omega, by omega, ?_⟩
       have e : List.take (keptI p xs).length ((ys ++ zs).map encI) ++ List.replicate (xs.length - (keptI p xs).length) [V.int IntKind.i64 0] ++ List.drop ((keptI p xs).length + (xs.length - (keptI p xs).length)) ((ys ++ zs).map encI) = (keptI p xs ++ (List.replicate (xs.length - (keptI p xs).length) 0 ++ zs)).map encI := by
         rw [← List.map_take, ← List.map_drop, show (keptI p xs).length + (xs.length - (keptI p xs).length) = ys.length by omega, List.drop_left, List.take_append_of_le_length (by omega), h1, List.map_append, List.map_append, List.map_replicate, List.append_assoc]
         rfl
       rw [e, Nat.sub_zero]
       refine LResY.mk [0] ?_
       simp only [mvcgen_simp, method_specs_simp, seval]
end
end Go.Proofs.YtdldgbkdcpdbeaaGreat
end

section
namespace Go.Proofs.YtdldgbkdcpdbeaaGreat
open Go.Pm
open Go.Gm (Ev Gr)
set_option maxHeartbeats 2000000
def okE (x : Hs) (e : Ev) : Bool := lookD x.R e.id 0 == 0
def accI (g : Gr) (x : Hs) : List Int := (g.events.filter (okE x)).map (·.id)
def hitI (g : Gr) (id i : Int) : Bool := (evOf g id).prev.contains i
def endsI (g : Gr) (ids l : List Int) : List Int := ids.foldl (fun o id => keptI (hitI g id) o) l
theorem endsI_le (g : Gr) : ∀ (ids l : List Int), (endsI g ids l).length ≤ l.length
 | [], l => Nat.le_refl _
 | id :: ids, l => Nat.le_trans (endsI_le g ids _) (keptI_le _ _)
theorem endsI_mem (g : Gr) : ∀ (ids l : List Int) {i : Int}, i ∈ endsI g ids l → i ∈ l
 | [], l, i, h => h
 | id :: ids, l, i, h => (List.mem_filter.1 (endsI_mem g ids _ h)).1
theorem endsI_snoc (g : Gr) (ids l : List Int) (id : Int) : endsI g (ids ++ [id]) l = keptI (hitI g id) (endsI g ids l) := by unfold endsI; rw [List.foldl_append]; rfl
theorem endsI_filter (g : Gr) : ∀ (ids l : List Int), endsI g ids l = l.filter fun i => !(ids.any fun id => hitI g id i)
 | [], l => by
   show l = l.filter fun i => !(([] : List Int).any fun id => hitI g id i)
   exact (List.filter_eq_self.2 fun i _ => rfl).symm
 | id :: ids, l => by
   show endsI g ids (keptI (hitI g id) l) = _
   rw [endsI_filter g ids]
   unfold keptI
   rw [List.filter_filter]
   refine List.filter_congr fun i _ => ?_
   simp only [List.any_cons, Bool.not_or, Bool.and_comm]
theorem rise_same {l : List Int} (h : Rise l) : dd (srtI l) = l := by
 rw [dd_set]
 obtain ⟨h1, h2⟩ := foldSet (l := l) (a := []) List.Pairwise.nil
 exact rise_one h1 h fun x => by rw [h2]; simp
theorem accI_rise {g : Gr} (h : GG g) (x : Hs) : Rise (accI g x) := by
 unfold accI Rise
 rw [List.pairwise_map]
 exact List.Pairwise.sublist List.filter_sublist h.srt
theorem accI_len {g : Gr} (h : GG g) (x : Hs) : (accI g x).length ≤ 60 := by
 have h1 := List.length_filter_le (okE x) g.events
 have h2 := h.n
 unfold accI
 rw [List.length_map]
 omega
section
variable {P : Program} [Is P]
theorem c_accepted (g : Gr) (x : Hs) (h : GG g) : Con P 103 [hF g x] (.sl 1 ((accI g x).map encI)) := by
 have h60 := h.n
 refine Con.ofS (n := 32) (rs := [.tmp 2]) (Is.fn Tryz.func103) rfl (Is.call Tryz.call103) Tryz.results103 Tryz.ntmps103 (by simp only [method_specs_simp]) ?_
 refine SW.seq (CW.sound ?_)
 simp only [method_specs_simp, seval, hF]
 refine SW.seq (CW.sound ?_)
 simp only [method_specs_simp, seval, hF]
 refine SW.seq (CW.sound ?_)
 simp only [method_specs_simp, seval, hF]
 obtain ⟨A, hA⟩ : ∃ A : Nat → List Int, A = fun i => ((g.events.take i).filter (okE x)).map (·.id) := ⟨_, rfl⟩
 have hA0 : A 0 = [] := by rw [hA]; rfl
 have hAn : A g.events.length = accI g x := by rw [hA]; unfold accI; show ((g.events.take g.events.length).filter (okE x)).map (·.id) = _; rw [List.take_length]
 have hAl : ∀ i, (A i).length ≤ i := fun i => by
   have h1 := List.length_filter_le (okE x) (g.events.take i)
   rw [List.length_take] at h1
   rw [hA, List.length_map]; omega
 have hAs : ∀ i e, g.events[i]? = some e → A (i + 1) = A i ++ if okE x e then [e.id] else [] := fun i e he => by
   rw [hA]
   show ((g.events.take (i + 1)).filter (okE x)).map (·.id) = _
   rw [List.take_add_one, he, Option.toList_some, List.filter_append, List.map_append]
   cases ho : okE x e <;> simp [ho]
 refine SW.while (A := Nat) (fun i => ⟨pad 32 [hF g x, .junk, .nil, .ar 0 0 (A i).length, .junk, .junk, .junk, .junk, .junk, .junk, .junk, .sl 9 (g.events.map encEv), .int .i64 g.events.length, .int .i64 i], [.arr true 1 ((A i).map encI)], []⟩) (fun i => g.events.length - i) (fun i => i ≤ g.events.length) 0 [0] (Nat.zero_le _) ?_ ?_
 · rw [hA0]
   simp only [mvcgen_simp, method_specs_simp, seval, hF]
 · intro i hi
   have w1 : IntKind.i64.wrap ((i : Int) + 1) = ((i + 1 : Nat) : Int) := wadd1 i (by omega)
   have hal := hAl i
   refine CW.sound ?_
   simp only [method_specs_simp, seval, hF]
   refine gB_split (fun h1 => ?_) (fun h1 => ?_)
   · simp only [decide_eq_true_eq, Int.ofNat_lt] at h1
     obtain ⟨e, he⟩ : ∃ e, g.events[i]? = some e := ⟨_, List.getElem?_eq_getElem h1⟩
     have hnx := hAs i e he
     obtain ⟨a, ha⟩ : ∃ a, a = A i := ⟨_, rfl⟩
     rw [← ha] at hnx hal ⊢
     simp only [method_specs_simp, seval, hF, he, encEv]
     refine ⟨by omega, by omega, by kernel_rfl, ?_⟩
     refine lkY.ints (V.int .i64) x.R 0 rfl (by simp only [method_specs_simp]) ?_
     simp only [method_specs_simp, seval, hF]
     have hok : okE x e = (lookD x.R e.id 0 == 0) := rfl
     rw [← hok]
     cases ho : okE x e with
     | true =>
       rw [ho, if_pos rfl] at hnx
       have e1 : a.map encI ++ [[V.int .i64 e.id]] = (A (i + 1)).map encI := by rw [hnx, List.map_append]; rfl
       have e2 : a.length + 1 = (A (i + 1)).length := by rw [hnx, List.length_append]; rfl
       simp only [method_specs_simp, seval, hF]
       refine ⟨by omega, by omega, ?_⟩
       rw [e1, e2]
       refine Again.mk (i + 1) [3] h1 (Nat.sub_lt_sub_left h1 (Nat.lt_succ_self _)) ?_
       simp only [mvcgen_simp, method_specs_simp, seval, hF, w1]
     | false =>
       rw [ho, if_neg (by decide), List.append_nil] at hnx
       simp only [method_specs_simp, seval, hF]
       refine Again.mk (i + 1) [0] h1 (Nat.sub_lt_sub_left h1 (Nat.lt_succ_self _)) ?_
       rw [hnx]
       simp only [mvcgen_simp, method_specs_simp, seval, hF, w1]
   · have hi2 : i = g.events.length := by simp only [decide_eq_false_iff_not, Bool.not_true, Int.ofNat_lt] at h1; omega
     rw [hi2, hAn]
     refine CW.sound ?_
     simp only [method_specs_simp, seval, hF, List.take_of_length_le, List.length_map, Nat.le_refl]
theorem c_endsC (e : Ev) (i : Int) (h4 : e.prev.length ≤ 4) : Con P 147 [.int .i64 i, .fptr (encEv e) 0] (.bool (e.prev.contains i)) := by
 refine Con.of (n := 8) (rs := [.tmp 3]) (Is.fn Tryz.func147) rfl (Is.call Tryz.call147) Tryz.results147 Tryz.ntmps147 trivial ?_
 simp only [method_specs_simp, seval, encEv]
 refine clY.con (c_containsI e.prev i (by omega)) (by simp only [method_specs_simp, encEv]) ?_
 simp only [method_specs_simp, seval, encEv]
theorem four_at {g : Gr} (h : GG g) (id : Int) : (evOf g id).prev.length ≤ 4 := by
 unfold evOf
 cases hh : atE g.events id with
 | none => exact Nat.zero_le _
 | some e => exact h.four e (List.mem_of_find?_eq_some hh)
def endsP (g : Gr) (ids : List Int) (j : Nat) : List Int := endsI g (ids.take j) ids ++ List.replicate (ids.length - (endsI g (ids.take j) ids).length) 0
theorem endsP_zero (g : Gr) (ids : List Int) : endsP g ids 0 = ids := by
 unfold endsP
 rw [List.take_zero, show endsI g [] ids = ids from rfl, Nat.sub_self]
 simp
theorem n_endsAmong (g : Gr) (x : Hs) (ids : List Int) (h : GG g) (hr : Rise ids) (hl : ids.length ≤ 60) : LCon P 102 [hF g x, .sl 1 (ids.map encI)] [] (.ar 0 0 (endsI g ids ids).length) [.arr true 1 ((endsP g ids ids.length).map encI)] := by
 have h60 := h.n
 refine LCon.ofS (n := 33) (rs := [.tmp 4]) (Is.fn Tryz.func102) rfl (Is.call Tryz.call102) Tryz.results102 Tryz.ntmps102 ?_
 refine SW.seq (CW.sound ?_)
 simp only [method_specs_simp, seval, hF]
 refine SW.seq (CW.sound ?_)
 simp only [method_specs_simp, seval, hF]
 refine clY.new (n_cloneI ids (by omega)) (by simp only [method_specs_simp, hF]) ?_
 simp only [method_specs_simp, seval, hF]
 have hso := n_sorted (P := P) ids ids.length rfl (by omega)
 rw [rise_same hr, padZ_same rfl] at hso
 refine clY.live [0] [] hso ?_ (by simp) ?_
 · simp only [mvcgen_simp, method_specs_simp, seval, hF]
 simp only [method_specs_simp, seval, hF]
 refine SW.seq (CW.sound ?_)
 simp only [method_specs_simp, seval, hF]
 refine SW.while (A := Nat) (fun j => ⟨pad 33 [hF g x, .junk, .junk, .junk, .nil, .ar 0 0 (endsI g (ids.take j) ids).length, .junk, .junk, .junk, .junk, .junk, .junk, .junk, .sl 1 (ids.map encI), .int .i64 ids.length, .int .i64 j], [.arr true 1 ((endsP g ids j).map encI)], []⟩) (fun j => ids.length - j) (fun j => j ≤ ids.length) 0 [0] (Nat.zero_le _) ?_ ?_
 · have h0 : endsI g (ids.take 0) ids = ids := rfl
   rw [h0, endsP_zero]
   simp only [mvcgen_simp, method_specs_simp, seval, hF]
 · intro j hj
   have w1 : IntKind.i64.wrap ((j : Int) + 1) = ((j + 1 : Nat) : Int) := wadd1 j (by omega)
   have hel := endsI_le g (ids.take j) ids
   refine CW.sound ?_
   simp only [method_specs_simp, seval, hF]
   refine gB_split (fun h1 => ?_) (fun h1 => ?_)
   · simp only [decide_eq_true_eq, Int.ofNat_lt] at h1
     obtain ⟨id, hid⟩ : ∃ id, ids[j]? = some id := ⟨_, List.getElem?_eq_getElem h1⟩
     have hnx : endsI g (ids.take (j + 1)) ids = keptI (hitI g id) (endsI g (ids.take j) ids) := by rw [List.take_add_one, hid, Option.toList_some, endsI_snoc]
     have hpx : endsP g ids (j + 1) = keptI (hitI g id) (endsI g (ids.take j) ids) ++ (List.replicate ((endsI g (ids.take j) ids).length - (keptI (hitI g id) (endsI g (ids.take j) ids)).length) 0 ++ List.replicate (ids.length - (endsI g (ids.take j) ids).length) 0) := by
       have hkl := keptI_le (hitI g id) (endsI g (ids.take j) ids)
       unfold endsP
       rw [hnx, List.replicate_append_replicate]
       congr 2
       omega
     obtain ⟨e, he⟩ : ∃ e, e = evOf g id := ⟨_, rfl⟩
     have hge : (atE g.events id).getD zE = e := he.symm
     have hf4 : e.prev.length ≤ 4 := by rw [he]; exact four_at h id
     have hdel := n_deleteI (P := P) (endsI g (ids.take j) ids) (List.replicate (ids.length - (endsI g (ids.take j) ids).length) 0) 147 (encEv e) (hitI g id) (encEv_ref1 _ e) (fun i _ => by
       have := c_endsC (P := P) e i hf4
       rw [he] at this
       rw [he]
       exact this) (by omega) (by rw [List.length_replicate]; omega)
     rw [← hnx] at hdel hpx
     rw [← hpx] at hdel
     have hpe : endsI g (ids.take j) ids ++ List.replicate (ids.length - (endsI g (ids.take j) ids).length) 0 = endsP g ids j := rfl
     rw [hpe] at hdel
     simp only [method_specs_simp, seval, hF, hid, encI]
     refine ⟨by omega, by omega, ?_⟩
     refine clY.con (c_at g id h.hx h.srt) (by simp only [method_specs_simp, encGr]) ?_
     rw [hge]
     simp only [method_specs_simp, seval, hF, encEv]
     refine clY.live [0] [1] hdel ?_ (by simp) ?_
     · simp only [mvcgen_simp, method_specs_simp, seval, hF, encEv]
     simp only [method_specs_simp, seval, hF]
     refine Again.mk (j + 1) [0] h1 (Nat.sub_lt_sub_left h1 (Nat.lt_succ_self _)) ?_
     simp only [mvcgen_simp, method_specs_simp, seval, hF, w1]
   · have hj2 : j = ids.length := by simp only [decide_eq_false_iff_not, Bool.not_true, Int.ofNat_lt] at h1; omega
     rw [hj2, List.take_of_length_le (Nat.le_refl _)]
     refine CW.sound ?_
     simp only [method_specs_simp, seval, hF]
     refine LResY.mk [0] ?_
     simp only [mvcgen_simp, method_specs_simp, seval, hF]
def endsG (g : Gr) (x : Hs) : List Int := endsI g (accI g x) (accI g x)
theorem endsG_len {g : Gr} (h : GG g) (x : Hs) : (endsG g x).length ≤ 60 := Nat.le_trans (endsI_le g _ _) (accI_len h x)
theorem n_ends (g : Gr) (x : Hs) (h : GG g) : LCon P 59 [hF g x] [] (.ar 0 0 (endsG g x).length) [.arr true 1 ((endsP g (accI g x) (accI g x).length).map encI)] := by
 have hal := accI_len h x
 refine LCon.of (n := 7) (rs := [.tmp 2]) (Is.fn Tryz.func59) rfl (Is.call Tryz.call59) Tryz.results59 Tryz.ntmps59 ?_
 simp only [method_specs_simp, seval, hF]
 refine clY.con (c_accepted g x h) (by simp only [method_specs_simp, hF]) ?_
 simp only [method_specs_simp, seval, hF]
 refine clY.new (LCon.new (n_endsAmong g x (accI g x) h (accI_rise h x) hal) (pure1 (pure_ints _ _))) (by simp only [method_specs_simp, hF]) ?_
 simp only [method_specs_simp, seval, hF]
 refine LResY.mk [0] ?_
 simp only [mvcgen_simp, method_specs_simp, seval, hF]
 rfl
theorem endsP_cut (g : Gr) (ids : List Int) : endsP g ids ids.length = endsI g ids ids ++ List.replicate (ids.length - (endsI g ids ids).length) 0 := by
 unfold endsP
 rw [List.take_length]
theorem c_ends (g : Gr) (x : Hs) (h : GG g) : Con P 59 [hF g x] (.sl 1 ((endsG g x).map encI)) := by
 have h1 := (LCon.new (n_ends (P := P) g x h) (pure1 (pure_ints _ _)))
 have htk : List.take (endsG g x).length ((endsP g (accI g x) (accI g x).length).map encI) = (endsG g x).map encI := by
   rw [endsP_cut, List.map_append]
   exact List.take_left' (by unfold endsG; rw [List.length_map])
 have h2 := h1.con (by simp only [method_specs_simp, htk])
 have e : convR [Ob.arr true 1 ((endsP g (accI g x) (accI g x).length).map encI)] (.ar 0 0 (endsG g x).length) = .sl 1 ((endsG g x).map encI) := by simp only [method_specs_simp, htk]
 rwa [e] at h2
end
end Go.Proofs.YtdldgbkdcpdbeaaGreat
end

section
namespace Go.Proofs.YtdldgbkdcpdbeaaGreat
open Go.Pm
open Go.Gm (Ev Gr)
set_option maxHeartbeats 4000000
def takL (g : Gr) (x : Hs) : List Bool := g.events.map (okE x)
theorem takL_len (g : Gr) (x : Hs) : (takL g x).length = g.events.length := List.length_map _
theorem takL_get {g : Gr} {x : Hs} {k : Nat} {e : Ev} (he : g.events[k]? = some e) : (takL g x)[k]? = some (okE x e) := by unfold takL; rw [List.getElem?_map, he]; rfl
def tkP (g : Gr) (x : Hs) (i : Nat) : List Bool := (takL g x).take i ++ List.replicate (g.events.length - i) false
theorem tkP_len {g : Gr} {x : Hs} {i : Nat} (h : i ≤ g.events.length) : (tkP g x i).length = g.events.length := by
 unfold tkP
 rw [List.length_append, List.length_take, List.length_replicate, takL_len]
 omega
theorem tkP_next {g : Gr} {x : Hs} {i : Nat} {e : Ev} (he : g.events[i]? = some e) : (tkP g x i).set i (okE x e) = tkP g x (i + 1) := by
 have hi := (List.getElem?_eq_some_iff.1 he).1
 have hl : ((takL g x).take i).length = i := by rw [List.length_take, takL_len]; omega
 unfold tkP
 rw [List.set_append_right _ _ (by omega), hl, Nat.sub_self, show g.events.length - i = (g.events.length - (i + 1)) + 1 by omega, List.replicate_succ, List.set_cons_zero, List.take_add_one, takL_get he, Option.toList_some, List.append_assoc]
 rfl
def endB (g : Gr) (x : Hs) (e : Ev) : Bool := okE x e && g.events.all fun e' => !(okE x e' && e'.prev.contains e.id)
def endsR (g : Gr) (x : Hs) (i : Nat) : List Int := ((g.events.take i).filter (endB g x)).map (·.id)
theorem endsR_len (g : Gr) (x : Hs) (i : Nat) : (endsR g x i).length ≤ i := by
 have h1 := List.length_filter_le (endB g x) (g.events.take i)
 rw [List.length_take] at h1
 unfold endsR
 rw [List.length_map]; omega
theorem endsR_next {g : Gr} {x : Hs} {i : Nat} {e : Ev} (he : g.events[i]? = some e) : endsR g x (i + 1) = endsR g x i ++ if endB g x e then [e.id] else [] := by
 unfold endsR
 rw [List.take_add_one, he, Option.toList_some, List.filter_append, List.map_append]
 cases ho : endB g x e <;> simp [ho]
theorem evOf_mem {g : Gr} (h : GG g) {e : Ev} (he : e ∈ g.events) : evOf g e.id = e := by unfold evOf; rw [at_mem h.srt he]; rfl
theorem endsR_all {g : Gr} (h : GG g) (x : Hs) : endsR g x g.events.length = endsG g x := by
 unfold endsR endsG
 rw [List.take_length, endsI_filter]
 unfold accI
 rw [List.filter_map, List.filter_filter]
 congr 1
 refine List.filter_congr fun e he => ?_
 show endB g x e = (!(((g.events.filter (okE x)).map (·.id)).any fun id => hitI g id e.id) && okE x e)
 unfold endB
 rw [Bool.and_comm]
 congr 1
 rw [Bool.eq_iff_iff, List.all_eq_true, Bool.not_eq_true', List.any_eq_false]
 constructor
 · intro h1 id hid
   obtain ⟨e', he', rfl⟩ := List.mem_map.1 hid
   obtain ⟨h2, h3⟩ := List.mem_filter.1 he'
   have := h1 e' h2
   rw [h3, Bool.true_and] at this
   unfold hitI
   rw [evOf_mem h h2]
   simpa using this
 · intro h1 e' he'
   cases ho : okE x e' with
   | false => rfl
   | true =>
     have := h1 e'.id (List.mem_map.2 ⟨e', List.mem_filter.2 ⟨he', ho⟩, rfl⟩)
     unfold hitI at this
     rw [evOf_mem h he'] at this
     simpa using this
def endK (g : Gr) (x : Hs) (e : Ev) (k : Nat) : Bool := okE x e && (g.events.take k).all fun e' => !(okE x e' && e'.prev.contains e.id)
def endJ (g : Gr) (x : Hs) (e : Ev) (k : Nat) (l : List Int) (j : Nat) : Bool := endK g x e k && (l.take j).all fun p => p != e.id
theorem endK_all (g : Gr) (x : Hs) (e : Ev) : endK g x e g.events.length = endB g x e := by unfold endK; rw [List.take_length]; rfl
theorem endJ_zero (g : Gr) (x : Hs) (e : Ev) (k : Nat) (l : List Int) : endJ g x e k l 0 = endK g x e k := by unfold endJ; simp
theorem endJ_next {g : Gr} {x : Hs} {e : Ev} {k : Nat} {l : List Int} {j : Nat} {p : Int} (h : l[j]? = some p) : endJ g x e k l (j + 1) = (endJ g x e k l j && (p != e.id)) := by
 unfold endJ
 rw [List.take_add_one, h, Option.toList_some, List.all_append, Bool.and_assoc]
 simp
theorem endK_skip {g : Gr} {x : Hs} {e e' : Ev} {k : Nat} (h : g.events[k]? = some e') (ho : okE x e' = false) : endK g x e (k + 1) = endK g x e k := by
 unfold endK
 rw [List.take_add_one, h, Option.toList_some, List.all_append]
 simp [ho]
theorem endK_next {g : Gr} {x : Hs} {e e' : Ev} {k : Nat} (h : g.events[k]? = some e') (ho : okE x e' = true) : endK g x e (k + 1) = endJ g x e k e'.prev e'.prev.length := by
 have hc : (!e'.prev.contains e.id) = e'.prev.all fun p => p != e.id := by
   rw [Bool.eq_iff_iff, Bool.not_eq_true', List.all_eq_true]
   constructor
   · intro h1 p hp
     rw [bne_iff_ne]
     rintro rfl
     rw [List.contains_iff_mem.2 hp] at h1; cases h1
   · intro h1
     cases hb : e'.prev.contains e.id with
     | false => rfl
     | true =>
       have := h1 e.id (List.contains_iff_mem.1 hb)
       simp at this
 unfold endJ endK
 rw [List.take_add_one, h, Option.toList_some, List.all_append, List.take_length, ← hc]
 simp [ho, Bool.and_assoc]
section
variable {P : Program} [Is P]
theorem c_l06Taken (g : Gr) (x : Hs) (hn : g.events.length ≤ 60) : Con P 58 [kS g x] (.sl 1 ((takL g x).map encB)) := by
 refine Con.of (n := 29) (rs := [.tmp 2]) (Is.fn Tryz.func58) rfl (Is.call Tryz.call58) Tryz.results58 Tryz.ntmps58 (by simp only [method_specs_simp]) ?_
 simp only [method_specs_simp, seval, kS]
 refine ⟨by omega, by omega, by omega, ?_⟩
 have hz : List.replicate g.events.length [V.bool false] = (tkP g x 0).map encB := by unfold tkP; rw [List.take_zero, List.nil_append, Nat.sub_zero, List.map_replicate]; rfl
 rw [hz]
 refine SW.while (A := Nat) (fun i => ⟨pad 29 [kS g x, .junk, .nil, .ar 0 0 g.events.length, .int .i64 i], [.arr true 1 ((tkP g x i).map encB)], []⟩) (fun i => g.events.length - i) (fun i => i ≤ g.events.length) 0 [0] (Nat.zero_le _) ?_ ?_
 · simp only [mvcgen_simp, method_specs_simp, seval, kS]
 · intro i hi
   have w1 : IntKind.i64.wrap ((i : Int) + 1) = ((i + 1 : Nat) : Int) := wadd1 i (by omega)
   have htl := tkP_len (x := x) hi
   refine CW.sound ?_
   simp only [method_specs_simp, seval, kS]
   refine gB_split (fun h1 => ?_) (fun h1 => ?_)
   · simp only [decide_eq_true_eq, Int.ofNat_lt] at h1
     obtain ⟨e, he⟩ : ∃ e, g.events[i]? = some e := ⟨_, List.getElem?_eq_getElem h1⟩
     have hgR := oR_get x.R he
     have hnx := tkP_next (x := x) he
     have hok : (lookD x.R e.id 0 == 0) = okE x e := rfl
     simp only [method_specs_simp, seval, kS, hgR, hok]
     refine ⟨by omega, by omega, by omega, by omega, by omega, ?_⟩
     rw [hnx]
     refine Again.mk (i + 1) [0] h1 (Nat.sub_lt_sub_left h1 (Nat.lt_succ_self _)) ?_
     simp only [mvcgen_simp, method_specs_simp, seval, kS, w1]
   · have hi2 : i = g.events.length := by simp only [decide_eq_false_iff_not, Bool.not_true, Int.ofNat_lt] at h1; omega
     have hall : tkP g x i = takL g x := by
       unfold tkP
       rw [hi2, Nat.sub_self, List.replicate_zero, List.append_nil, List.take_of_length_le (by rw [takL_len]; exact Nat.le_refl _)]
     have htk : List.take g.events.length ((takL g x).map encB) = (takL g x).map encB := List.take_of_length_le (by rw [List.length_map, takL_len]; exact Nat.le_refl _)
     rw [hall]
     simp only [method_specs_simp, seval, kS, htk]
theorem c_l06Ends (g : Gr) (x : Hs) (h : GG g) : Con P 57 [.agg (encGr g), .sl 1 ((takL g x).map encB)] (.sl 1 ((endsG g x).map encI)) := by
 have h60 := h.n
 have htl := takL_len g x
 rw [← endsR_all h x]
 refine Con.ofS (n := 76) (rs := [.tmp 4]) (Is.fn Tryz.func57) rfl (Is.call Tryz.call57) Tryz.results57 Tryz.ntmps57 (by simp only [method_specs_simp]) ?_
 refine SW.seq (CW.sound ?_)
 simp only [method_specs_simp, seval, encGr]
 refine SW.seq (CW.sound ?_)
 simp only [method_specs_simp, seval, encGr]
 refine SW.seq (CW.sound ?_)
 simp only [method_specs_simp, seval, encGr]
 refine SW.while (A := Nat) (fun i => ⟨pad 76 [.junk, .sl 1 ((takL g x).map encB), .ptr 0 0, .junk, .nil, .ar 1 0 (endsR g x i).length, .int .i64 i], [.box true (encGr g), .arr true 1 ((endsR g x i).map encI)], []⟩) (fun i => g.events.length - i) (fun i => i ≤ g.events.length) 0 [0, 1] (Nat.zero_le _) ?_ ?_
 · have h0 : endsR g x 0 = [] := rfl
   rw [h0]
   simp only [mvcgen_simp, method_specs_simp, seval, encGr]
 · intro i hi
   have w1 : IntKind.i64.wrap ((i : Int) + 1) = ((i + 1 : Nat) : Int) := wadd1 i (by omega)
   have hel := endsR_len g x i
   refine CW.sound ?_
   simp only [method_specs_simp, seval, encGr]
   refine gB_split (fun h1 => ?_) (fun h1 => ?_)
   · simp only [decide_eq_true_eq, Int.ofNat_lt] at h1
     obtain ⟨e, he⟩ : ∃ e, g.events[i]? = some e := ⟨_, List.getElem?_eq_getElem h1⟩
     have hnx := endsR_next (x := x) he
     have hgt := takL_get (x := x) he
     simp only [method_specs_simp, seval, encGr, hgt, encB]
     refine ⟨by omega, by omega, ?_⟩
     refine SW.while (A := Nat) (fun k => ⟨pad 76 [.junk, .sl 1 ((takL g x).map encB), .ptr 0 0, .junk, .nil, .ar 1 0 (endsR g x i).length, .int .i64 i, .bool (endK g x e k), .int .i64 k], [.box true (encGr g), .arr true 1 ((endsR g x i).map encI)], []⟩) (fun k => g.events.length - k) (fun k => k ≤ g.events.length) 0 [0, 1] (Nat.zero_le _) ?_ ?_
     · have h0 : endK g x e 0 = okE x e := by unfold endK; simp
       rw [h0]
       simp only [mvcgen_simp, method_specs_simp, seval, encGr]
     · intro k hk
       have w2 : IntKind.i64.wrap ((k : Int) + 1) = ((k + 1 : Nat) : Int) := wadd1 k (by omega)
       refine CW.sound ?_
       simp only [method_specs_simp, seval, encGr]
       refine gB_split (fun h2 => ?_) (fun h2 => ?_)
       · simp only [decide_eq_true_eq, Int.ofNat_lt] at h2
         obtain ⟨e', he'⟩ : ∃ e', g.events[k]? = some e' := ⟨_, List.getElem?_eq_getElem h2⟩
         have hgt' := takL_get (x := x) he'
         have hf4 := h.four e' (List.mem_of_getElem? he')
         refine SW.while (A := Nat) (fun j => ⟨pad 76 [.junk, .sl 1 ((takL g x).map encB), .ptr 0 0, .junk, .nil, .ar 1 0 (endsR g x i).length, .int .i64 i, .bool (endJ g x e k e'.prev j), .int .i64 k, .int .i64 j], [.box true (encGr g), .arr true 1 ((endsR g x i).map encI)], []⟩) (fun j => e'.prev.length - j) (fun j => j ≤ e'.prev.length ∧ (okE x e' = false → j = 0)) 0 [0, 1] ⟨Nat.zero_le _, fun _ => rfl⟩ ?_ ?_
         · rw [endJ_zero]
           simp only [mvcgen_simp, method_specs_simp, seval, encGr]
         · rintro j ⟨hj, hj0⟩
           have w3 : IntKind.i64.wrap ((j : Int) + 1) = ((j + 1 : Nat) : Int) := wadd1 j (by omega)
           refine CW.sound ?_
           simp only [method_specs_simp, seval, encGr, hgt', encB, htl]
           cases ho : okE x e' with
           | false =>
             have hz := hj0 ho
             subst hz
             have hks := endK_skip (e := e) he' ho
             simp only [method_specs_simp, seval, encGr]
             refine ⟨by omega, by omega, ?_⟩
             refine Again.mk (k + 1) [0, 1] h2 (Nat.sub_lt_sub_left h2 (Nat.lt_succ_self _)) ?_
             rw [endJ_zero, hks]
             simp only [mvcgen_simp, method_specs_simp, seval, encGr, w2]
           | true =>
             simp only [method_specs_simp, seval, encGr, he', encEv]
             refine ⟨by omega, by omega, by omega, by omega, ?_⟩
             refine gB_split (fun h3 => ?_) (fun h3 => ?_)
             · simp only [decide_eq_true_eq, Int.ofNat_lt] at h3
               obtain ⟨p, hp⟩ : ∃ p, e'.prev[j]? = some p := ⟨_, List.getElem?_eq_getElem h3⟩
               have hjn := endJ_next (g := g) (x := x) (e := e) (k := k) hp
               refine ⟨by kernel_rfl, ?_⟩
               cases hb : endJ g x e k e'.prev j with
               | false =>
                 rw [hb, Bool.false_and] at hjn
                 simp only [method_specs_simp, seval, encGr]
                 refine Again.mk (j + 1) [0, 1] ⟨h3, fun q => by cases q⟩ (Nat.sub_lt_sub_left h3 (Nat.lt_succ_self _)) ?_
                 rw [hjn]
                 simp only [mvcgen_simp, method_specs_simp, seval, encGr, w3]
               | true =>
                 rw [hb, Bool.true_and] at hjn
                 simp only [method_specs_simp, seval, encGr, hp, encI, he, he', encEv]
                 refine ⟨by omega, by omega, by omega, by omega, by omega, by omega, ?_⟩
                 refine Again.mk (j + 1) [0, 1] ⟨h3, fun q => by cases q⟩ (Nat.sub_lt_sub_left h3 (Nat.lt_succ_self _)) ?_
                 rw [hjn]
                 simp only [mvcgen_simp, method_specs_simp, seval, encGr, w3]
             · have hj2 : j = e'.prev.length := by simp only [decide_eq_false_iff_not, Bool.not_true, Int.ofNat_lt] at h3; omega
               have hkn := endK_next (x := x) (e := e) he' ho
               refine Again.mk (k + 1) [0, 1] h2 (Nat.sub_lt_sub_left h2 (Nat.lt_succ_self _)) ?_
               rw [hj2, ← hkn]
               simp only [mvcgen_simp, method_specs_simp, seval, encGr, w2]
       · have hk2 : k = g.events.length := by simp only [decide_eq_false_iff_not, Bool.not_true, Int.ofNat_lt] at h2; omega
         rw [hk2, endK_all]
         cases hb : endB g x e with
         | true =>
           rw [hb, if_pos rfl] at hnx
           have e1 : (endsR g x i).map encI ++ [[V.int .i64 e.id]] = (endsR g x (i + 1)).map encI := by rw [hnx, List.map_append]; rfl
           have e2 : (endsR g x i).length + 1 = (endsR g x (i + 1)).length := by rw [hnx, List.length_append]; rfl
           simp only [method_specs_simp, seval, encGr, he, encEv]
           refine ⟨by omega, by omega, by omega, by omega, ?_⟩
           rw [e1, e2]
           refine Again.mk (i + 1) [0, 3] h1 (Nat.sub_lt_sub_left h1 (Nat.lt_succ_self _)) ?_
           simp only [mvcgen_simp, method_specs_simp, seval, encGr, w1]
         | false =>
           rw [hb, if_neg (by decide), List.append_nil] at hnx
           simp only [method_specs_simp, seval, encGr]
           refine Again.mk (i + 1) [0, 1] h1 (Nat.sub_lt_sub_left h1 (Nat.lt_succ_self _)) ?_
           rw [hnx]
           simp only [mvcgen_simp, method_specs_simp, seval, encGr, w1]
   · have hi2 : i = g.events.length := by simp only [decide_eq_false_iff_not, Bool.not_true, Int.ofNat_lt] at h1; omega
     rw [hi2]
     refine CW.sound ?_
     simp only [method_specs_simp, seval, encGr]
theorem c_statesF (g : Gr) (x : Hs) (ids : List Int) (hl : ids.length ≤ 60) (hi : ∀ id ∈ ids, (lookD x.A id none).isSome = true) : Con P 104 [hF g x, .sl 1 (ids.map encI)] (.sl 1 ((stsA x.A ids).map encSS)) := by
 refine Con.ofS (n := 26) (rs := [.tmp 4]) (Is.fn Tryz.func104) rfl (Is.call Tryz.call104) Tryz.results104 Tryz.ntmps104 (by simp only [method_specs_simp]) ?_
 refine SW.seq (CW.sound ?_)
 simp only [method_specs_simp, seval, hF]
 refine SW.seq (CW.sound ?_)
 simp only [method_specs_simp, seval, hF]
 refine SW.seq (CW.sound ?_)
 simp only [method_specs_simp, seval, hF]
 refine SW.while (A := Nat) (fun k => ⟨pad 26 [hF g x, .junk, .junk, .junk, .nil, .ar 0 0 (stsA x.A (ids.take k)).length, .junk, .junk, .junk, .sl 1 (ids.map encI), .int .i64 ids.length, .int .i64 k], [.arr true 1 ((stsA x.A (ids.take k)).map encSS)], []⟩) (fun k => ids.length - k) (fun k => k ≤ ids.length) 0 [0] (Nat.zero_le _) ?_ ?_
 · have h0 : stsA x.A (ids.take 0) = [] := rfl
   rw [h0]
   simp only [mvcgen_simp, method_specs_simp, seval, hF]
 · intro k hk
   have hln : (stsA x.A (ids.take k)).length = k := by unfold stsA; rw [List.length_map, List.length_take]; omega
   have w1 : IntKind.i64.wrap ((k : Int) + 1) = ((k + 1 : Nat) : Int) := wadd1 k (by omega)
   refine CW.sound ?_
   simp only [method_specs_simp, seval, hF]
   refine gB_split (fun h => ?_) (fun h => ?_)
   · simp only [decide_eq_true_eq, Int.ofNat_lt] at h
     obtain ⟨id, hid⟩ : ∃ id, ids[k]? = some id := ⟨_, List.getElem?_eq_getElem h⟩
     obtain ⟨s, hs⟩ := Option.isSome_iff_exists.1 (hi id (List.mem_of_getElem? hid))
     have hnx : stsA x.A (ids.take (k + 1)) = stsA x.A (ids.take k) ++ [s] := by unfold stsA; rw [List.take_add_one, hid, Option.toList_some, List.map_append, List.map_singleton, hs]; rfl
     have e1 : (stsA x.A (ids.take k)).map encSS ++ [[V.sl 3 (s.map encEnt)]] = (stsA x.A (ids.take (k + 1))).map encSS := by rw [hnx, List.map_append]; rfl
     have e2 : (stsA x.A (ids.take k)).length + 1 = (stsA x.A (ids.take (k + 1))).length := by rw [hnx, List.length_append]; rfl
     simp only [method_specs_simp, seval, hF, hid, encI]
     refine ⟨by omega, by omega, ?_⟩
     refine lkY.ints fS x.A none rfl (by simp only [method_specs_simp, fS]) ?_
     rw [hs]
     simp only [method_specs_simp, seval, hF, fS]
     refine ⟨by omega, by omega, ?_⟩
     rw [e1, e2]
     refine Again.mk (k + 1) [2] h (Nat.sub_lt_sub_left h (Nat.lt_succ_self _)) ?_
     simp only [mvcgen_simp, method_specs_simp, seval, hF, w1]
   · have hk2 : k = ids.length := by simp only [decide_eq_false_iff_not, Bool.not_true, Int.ofNat_lt] at h; omega
     have htk : List.take (stsA x.A ids).length ((stsA x.A ids).map encSS) = (stsA x.A ids).map encSS := List.take_of_length_le (by rw [List.length_map]; exact Nat.le_refl _)
     rw [hk2, List.take_of_length_le (Nat.le_refl _)]
     refine CW.sound ?_
     simp only [method_specs_simp, seval, hF, htk]
end
end Go.Proofs.YtdldgbkdcpdbeaaGreat
end

section
namespace Go.Proofs.YtdldgbkdcpdbeaaGreat
set_option maxRecDepth 100000
theorem and_mk {a b : Bool} (ha : a = true) (hb : b = true) : (a && b) = true := by rw [ha, hb]; rfl
theorem p_own : ownKnob Tryz.prog.godebug = none := by kernel_rfl
theorem p_laid : laidOutB Tryz.prog = true := by kernel_rfl
theorem p_maps : mapsRowed Tryz.prog = true := by kernel_rfl
theorem p_stops : (Tryz.prog.stops == []) = true := by kernel_rfl
theorem p_knobs : (Tryz.prog.stopKnobs == []) = true := by kernel_rfl
theorem p_keys : Tryz.prog.plainKeys = true := by kernel_rfl
theorem p_heard : Tryz.prog.stopsHeard = true := by kernel_rfl
theorem p_enter : Tryz.prog.mayEnter = true := by kernel_rfl
end Go.Proofs.YtdldgbkdcpdbeaaGreat
end

section
namespace Go.Proofs.YtdldgbkdcpdbeaaGreat
open Go.Pm
theorem RR.pre {c : Cx} {k b : Nat} : ∀ {xs ys : List (List V)} {o : Nat}, RR c k b o (xs ++ ys) → RR c k b o xs
 | [], _, _, _ => trivial
 | _ :: _, _, _, ⟨h1, h2, h3⟩ => ⟨h1, h2, RR.pre h3⟩
end Go.Proofs.YtdldgbkdcpdbeaaGreat
end

section
namespace Go.Proofs.YtdldgbkdcpdbeaaGreat
open Go.Pm
open Go.Gm (Ev Gr)
set_option maxHeartbeats 4000000
theorem hF_le (g : Gr) (x : Hs) : VLe (hF g x) (hV g x) := VLe.fptr (.cons (VLe.refl _) (.cons (VLe.refl _) (.cons (VLe.refl _) (.cons (VLe.refl _) (.cons (VLe.junk _) (.cons (VLe.junk _) (.cons (VLe.junk _) .nil)))))))
theorem sts_ok {g : Gr} (h : GG g) {ids : List Int} (hi : ∀ id ∈ ids, Gm.hasId g.events id = true) : (∀ id ∈ ids, (lookD (hsG g).A id none).isSome = true) ∧ ∀ s ∈ stsA (hsG g).A ids, SG g s := by
 refine ⟨fun id hid => ?_, fun s hs => ?_⟩
 · rw [(hsG_in h (hi id hid)).2.1]; rfl
 · obtain ⟨id, hid, rfl⟩ := List.mem_map.1 hs
   rw [(hsG_in h (hi id hid)).2.1]
   exact (hsG_in h (hi id hid)).2.2
theorem endsG_has {g : Gr} (x : Hs) : ∀ id ∈ endsG g x, Gm.hasId g.events id = true := fun id hid => by
 have h1 := endsI_mem g _ _ hid
 obtain ⟨e, he, rfl⟩ := List.mem_map.1 h1
 exact has_mem (List.mem_filter.1 he).1
def curG (g : Gr) : List Ent := resI g (DD g) (stsA (hsG g).A (endsG g (hsG g)))
theorem curG_SG {g : Gr} (h : GG g) : SG g (curG g) := resI_SG h (sts_ok h (endsG_has _)).2
section
variable {P : Program} [Is P]
theorem n_now (g : Gr) (h : GG g) : NCon P 61 [hF g (hsG g)] (.ar 0 0 (curG g).length) [.arr true 3 ((curG g).map encEnt)] := by
 have hel := endsG_len h (hsG g)
 obtain ⟨h1, h2⟩ := sts_ok h (endsG_has (g := g) (hsG g))
 have hD : (hsG g).D = DD g := hsN_D g (DD g) _ _
 have hres := (n_resolve (P := P) g (hsG g) (stsA (hsG g).A (endsG g (hsG g))) h (SL.of h (by rw [stsA_len]; omega) h2)).weak (VLes.cons (hF_le g (hsG g)) (VLes.same VLes.nil))
 rw [hD] at hres
 have hcur : resI g (DD g) (stsA (hsG g).A (endsG g (hsG g))) = curG g := rfl
 rw [hcur] at hres
 refine LCon.new (LCon.of (n := 9) (rs := [.tmp 2]) (Is.fn Tryz.func61) rfl (Is.call Tryz.call61) Tryz.results61 Tryz.ntmps61 ?_) (pure1 (pure_ents _ _))
 simp only [method_specs_simp, seval, hF]
 refine clY.con (c_ends g (hsG g) h) (by simp only [method_specs_simp, hF]) ?_
 simp only [method_specs_simp, seval, hF]
 refine clY.con (c_statesF g (hsG g) (endsG g (hsG g)) hel h1) (by simp only [method_specs_simp, hF]) ?_
 simp only [method_specs_simp, seval, hF]
 refine clY.new hres (by simp only [method_specs_simp, hF]) ?_
 simp only [method_specs_simp, seval, hF]
 refine LResY.mk [0] ?_
 simp only [mvcgen_simp, method_specs_simp, seval, hF]
theorem n_CurrentOf (g : Gr) (hg : GrOK g) (hr : Gm.grRight g = true) : LCon P 34 [.agg (encGr g)] [] (.ar 0 0 (curG g).length) [.arr true 3 ((curG g).map encEnt)] := by
 have h : GG g := ⟨hg, hr⟩
 refine LCon.of (n := 9) (rs := [.tmp 2]) (Is.fn Tryz.func34) rfl (Is.call Tryz.call34) Tryz.results34 Tryz.ntmps34 ?_
 simp only [method_specs_simp, seval, encGr]
 refine clY.con (c_GraphRight g hg) (by simp only [method_specs_simp, encGr]) ?_
 rw [hr]
 simp only [method_specs_simp, seval, encGr]
 refine clY.con (c_newHistory g h) (by simp only [method_specs_simp, encGr]) ?_
 simp only [method_specs_simp, seval, encGr]
 refine clY.new (n_now g h) ⟨hF_ref _ g _, trivial⟩ ?_
 simp only [method_specs_simp, seval, encGr]
 refine LResY.mk [1] ?_
 simp only [mvcgen_simp, method_specs_simp, seval, encGr]
theorem c_CurrentOfZ (g : Gr) (hg : GrOK g) (hr : Gm.grRight g = false) : Con P 34 [.agg (encGr g)] .nil := by
 refine Con.of (n := 9) (rs := [.tmp 2]) (Is.fn Tryz.func34) rfl (Is.call Tryz.call34) Tryz.results34 Tryz.ntmps34 trivial ?_
 simp only [method_specs_simp, seval]
 refine clY.con (c_GraphRight g hg) (by simp only [method_specs_simp]) ?_
 simp only [method_specs_simp, seval, hr]
theorem c_l06Current (g : Gr) (h : GG g) : Con P 60 [.agg (encGr g), kS g (hsG g), .sl 1 ((takL g (hsG g)).map encB)] (.sl 3 ((curG g).map encEnt)) := by
 have h60 := h.n
 have hel := endsG_len h (hsG g)
 have hhas := endsG_has (g := g) (hsG g)
 obtain ⟨h1, h2⟩ := sts_ok h hhas
 refine Con.ofS (n := 43) (rs := [.tmp 6]) (Is.fn Tryz.func60) rfl (Is.call Tryz.call60) Tryz.results60 Tryz.ntmps60 (by simp only [method_specs_simp]) ?_
 refine SW.seq (CW.sound ?_)
 simp only [method_specs_simp, seval, encGr, kS]
 refine SW.seq (CW.sound ?_)
 simp only [method_specs_simp, seval, encGr, kS]
 refine clY.con (c_l06Ends g (hsG g) h) (by simp only [method_specs_simp, encGr]) ?_
 obtain ⟨ids, hids⟩ : ∃ ids, ids = endsG g (hsG g) := ⟨_, rfl⟩
 have hcur : curG g = resI g (DD g) (stsA (hsG g).A ids) := by rw [hids]; rfl
 rw [← hids] at hel hhas h1 h2 ⊢
 simp only [method_specs_simp, seval, encGr, kS]
 refine SW.seq (CW.sound ?_)
 simp only [method_specs_simp, seval, encGr, kS]
 refine SW.seq (CW.sound ?_)
 simp only [method_specs_simp, seval, encGr, kS]
 refine SW.while (A := Nat) (fun j => ⟨pad 43 [.junk, kS g (hsG g), .junk, .ptr 0 0, .junk, .junk, .nil, .sl 1 (ids.map encI), .ar 1 0 j, .int .i64 j], [.box true (encGr g), .arr true 1 ((stsA (hsG g).A (ids.take j)).map encSS)], []⟩) (fun j => ids.length - j) (fun j => j ≤ ids.length) 0 [0, 1] (Nat.zero_le _) ?_ ?_
 · have h0 : stsA (hsG g).A (ids.take 0) = [] := rfl
   rw [h0]
   simp only [mvcgen_simp, method_specs_simp, seval, encGr, kS]
 · intro j hj
   have hjl : (stsA (hsG g).A (ids.take j)).length = j := by rw [stsA_len, List.length_take]; omega
   have w2 : IntKind.i64.wrap ((j : Int) + 1) = ((j + 1 : Nat) : Int) := wadd1 j (by omega)
   refine CW.sound ?_
   simp only [method_specs_simp, seval, encGr, kS]
   refine gB_split (fun h3 => ?_) (fun h3 => ?_)
   · simp only [decide_eq_true_eq, Int.ofNat_lt] at h3
     obtain ⟨p, hp⟩ : ∃ p, ids[j]? = some p := ⟨_, List.getElem?_eq_getElem h3⟩
     have hpm := List.mem_of_getElem? hp
     obtain ⟨s, hsv⟩ := Option.isSome_iff_exists.1 (h1 p hpm)
     have hph := hhas p hpm
     obtain ⟨ep, hep, hepi⟩ := Gm.fid_get hph
     have hpl := Gm.fid_lt hph
     have hpi : atI g.events p = ((Gm.fidE g.events p : Nat) : Int) := atI_yes hph
     obtain ⟨f, hf⟩ : ∃ f, f = Gm.fidE g.events p := ⟨_, rfl⟩
     rw [← hf] at hep hpl hpi
     have hget : (oB g (hsG g).A)[f]? = some [V.sl 3 (s.map encEnt)] := by rw [oB_get _ hep, hepi, hsv]; rfl
     have hnS : stsA (hsG g).A (ids.take (j + 1)) = stsA (hsG g).A (ids.take j) ++ [s] := by unfold stsA; rw [List.take_add_one, hp, Option.toList_some, List.map_append, List.map_singleton, hsv]; rfl
     have e1 : (stsA (hsG g).A (ids.take j)).map encSS ++ [[V.sl 3 (s.map encEnt)]] = (stsA (hsG g).A (ids.take (j + 1))).map encSS := by rw [hnS, List.map_append]; rfl
     simp only [method_specs_simp, seval, encGr, kS, hp, encI, hjl]
     refine ⟨by kernel_rfl, by omega, by omega, ?_⟩
     refine clY.con (c_l03At g.events p (by omega)) (by simp only [method_specs_simp, encGr, kS]) ?_
     simp only [method_specs_simp, seval, encGr, kS, hpi]
     simp only [method_specs_simp, seval, encGr, kS, hget]
     refine ⟨by omega, by omega, hjl, by omega, by omega, ?_⟩
     rw [e1]
     refine Again.mk (j + 1) [0, 3] h3 (Nat.sub_lt_sub_left h3 (Nat.lt_succ_self _)) ?_
     simp only [mvcgen_simp, method_specs_simp, seval, encGr, kS, w2]
   · have hj2 : j = ids.length := by simp only [decide_eq_false_iff_not, Bool.not_true, Int.ofNat_lt] at h3; omega
     have htk : ids.take j = ids := by rw [hj2]; exact List.take_length
     rw [htk] at hjl ⊢
     refine SW.freeze [1] ?_
     simp only [mvcgen_simp, method_specs_simp, seval, encGr, kS, convs_r8j, conv_junkj]
     have e2 : List.take j ((stsA (hsG g).A ids).map encSS) = (stsA (hsG g).A ids).map encSS := List.take_of_length_le (by rw [List.length_map]; omega)
     rw [e2]
     refine CW.sound ?_
     simp only [method_specs_simp, seval, encGr, kS]
     refine ⟨by kernel_rfl, ?_⟩
     refine clY.con (c_l06Resolve g (stsA (hsG g).A ids) h h2 (by omega)) (by simp only [method_specs_simp, encGr]) ?_
     rw [← hcur]
     simp only [method_specs_simp, seval, encGr, kS]
theorem c_sCurrentOf (g : Gr) (hg : GrOK g) (hr : Gm.grRight g = true) : Con P 33 [.agg (encGr g)] (.sl 3 ((curG g).map encEnt)) := by
 have h : GG g := ⟨hg, hr⟩
 refine Con.of (n := 15) (rs := [.tmp 2]) (Is.fn Tryz.func33) rfl (Is.call Tryz.call33) Tryz.results33 Tryz.ntmps33 (by simp only [method_specs_simp]) ?_
 simp only [method_specs_simp, seval, encGr]
 refine clY.con (c_sGraphRight g hg) (by simp only [method_specs_simp, encGr]) ?_
 rw [hr]
 simp only [method_specs_simp, seval, encGr]
 refine clY.con (c_l06All g h) (by simp only [method_specs_simp, encGr]) ?_
 simp only [method_specs_simp, seval, encGr]
 refine ⟨by kernel_rfl, ?_⟩
 refine clY.con (c_l06Taken g (hsG g) h.n) ⟨kS_ref _ g _, trivial⟩ ?_
 simp only [method_specs_simp, seval, encGr]
 refine clY.con (c_l06Current g h) ⟨encGr_ref1 _ g, kS_ref _ g _, of_eq_true (encB_refs _ _), trivial⟩ ?_
 simp only [method_specs_simp, seval, encGr]
theorem c_sCurrentOfZ (g : Gr) (hg : GrOK g) (hr : Gm.grRight g = false) : Con P 33 [.agg (encGr g)] (.sl 3 (([] : List Ent).map encEnt)) := by
 refine Con.of (n := 15) (rs := [.tmp 2]) (Is.fn Tryz.func33) rfl (Is.call Tryz.call33) Tryz.results33 Tryz.ntmps33 trivial ?_
 simp only [method_specs_simp, seval]
 refine clY.con (c_sGraphRight g hg) (by simp only [method_specs_simp]) ?_
 simp only [method_specs_simp, seval, hr, List.map_nil]
theorem currentOf_law (g : Gr) (zs : List Ent) (hg : GrOK g) (hz : zs.length < 2 ^ 40) (h46 : Con P 33 [.agg (encGr g)] (.sl 3 (zs.map encEnt))) (h47 : LCon P 34 [.agg (encGr g)] [] (.ar 0 0 zs.length) [.arr true 3 (zs.map encEnt)]) :
   Con P 8 [.agg (encGr g)] (.bool true) := by
 refine Con.of (n := 69) (rs := [.tmp 2]) (Is.fn Tryz.func8) rfl (Is.call Tryz.call8) Tryz.results8 Tryz.ntmps8 trivial ?_
 simp only [method_specs_simp, seval]
 refine clY.con (c_szGraph g 1048576 (by decide) (by decide) hg) (by simp only [method_specs_simp]) ?_
 simp only [method_specs_simp, seval]
 refine gB_split (fun _ => trivial) (fun w1 => ?_)
 obtain ⟨q1, q2, q3⟩ := sb_yes (wG_nn g) w1
 refine clY.con (c_toGraph g hg) (by simp only [method_specs_simp]) ?_
 simp only [method_specs_simp, seval]
 refine clY.con (h46) (by simp only [method_specs_simp]) ?_
 simp only [method_specs_simp, seval]
 refine clY.newD 0 (n_toGraph g hg) (dcv_zero _ _) (by simp only [method_specs_simp]) (grV_flat 0 g) (obG_flat g) ?_
 obtain ⟨G, hG⟩ : ∃ G, G = obGb 1 g := ⟨_, rfl⟩
 obtain ⟨N, hN⟩ : ∃ N, N = g.events.length + 1 + (g.parked.length + 1) := ⟨_, rfl⟩
 have hp : Past G N := Past.mk' (by rw [hG, hN, obGb_len])
 have hA1 : ∀ L : List Ob, (G ++ L)[0]? = some (.arr true 9 (rowsEv 2 g.events)) := fun L => by rw [hG]; rfl
 have hA2 : ∀ (a : Ob) (L : List Ob), (a :: (G ++ L))[1 + (g.events.length + 1)]? = some (.arr true 9 (rowsEv (1 + (g.events.length + 1) + 1) g.parked)) := fun a L => by
   rw [hG]; exact obGb_one g a L
 simp only [method_specs_simp, seval, hp.len, hp.g0, hp.g, hp.b0, hp.b, hp.v0, hp.v, hp.a0, hp.a, hp.w0, hp.w, hp.s0, hp.s, List.append_assoc, List.cons_append, List.nil_append, obG_ren, grV, ← hG, hA1, hA2]
 have hL : ∀ (a : Ob) (L : List Ob), LiesG (a :: (G ++ L)) 1 g := fun a L => LiesG.mk (A := [a]) rfl (by rw [hG]; rfl)
 refine clY.newD 3 h47 ?_ ⟨encGr_ref1 _ g, trivial⟩ trivial (flat1 ⟨rfl, flat_ents _⟩) ?_
 · show [dcv 3 _ (.agg (grV 1 g))] = _
   rw [(hL _ _).dcv]
 simp only [method_specs_simp, seval, hp.len, hp.g0, hp.g, hp.b0, hp.b, hp.v0, hp.v, hp.a0, hp.a, hp.w0, hp.w, hp.s0, hp.s, List.append_assoc, List.cons_append, List.nil_append]
 refine clY.conD 1 (c57 zs zs (by omega)) ?_ ⟨of_eq_true (encEnt_refs _ zs), of_eq_true (encEnt_refs _ zs), trivial⟩ trivial ?_
 · show [dcv 1 _ (.ar (N + 2) 0 zs.length), dcv 1 _ (.sl 3 (zs.map encEnt))] = _
   rw [dcv_flat (zs := zs.map encEnt) (lv := true) (sz := 3)]
   rfl
   simp only [method_specs_simp, seval, hp.len, hp.g0, hp.g, hp.b0, hp.b, hp.v0, hp.v, hp.a0, hp.a, hp.w0, hp.w, hp.s0, hp.s, List.append_assoc, List.cons_append, List.nil_append]
   rw [List.length_map]
 simp only [method_specs_simp, seval, hp.len, hp.g0, hp.g, hp.b0, hp.b, hp.v0, hp.v, hp.a0, hp.a, hp.w0, hp.w, hp.s0, hp.s, List.append_assoc, List.cons_append, List.nil_append, eqEntS_same]
 refine ⟨by kernel_rfl, ?_⟩
 refine clY.con (c_toGraph g hg) (by simp only [method_specs_simp, hp.len, hp.g0, hp.g, hp.b0, hp.b, hp.v0, hp.v, hp.a0, hp.a, hp.w0, hp.w, hp.s0, hp.s, List.append_assoc, List.cons_append, List.nil_append]) ?_
 simp only [method_specs_simp, seval, hp.len, hp.g0, hp.g, hp.b0, hp.b, hp.v0, hp.v, hp.a0, hp.a, hp.w0, hp.w, hp.s0, hp.s, List.append_assoc, List.cons_append, List.nil_append]
 refine clY.conD 3 (c_eqGraph g hg) ?_ ⟨encGr_ref1 _ g, encGr_ref1 _ g, trivial⟩ trivial ?_
 · show [dcv 3 _ (.agg (grV 1 g)), dcv 3 _ (.agg (encGr g))] = _
   rw [(hL _ _).dcv, dcv_encG]
 simp only [method_specs_simp, seval, hp.len, hp.g0, hp.g, hp.b0, hp.b, hp.v0, hp.v, hp.a0, hp.a, hp.w0, hp.w, hp.s0, hp.s, List.append_assoc, List.cons_append, List.nil_append, Bool.not_true]
 have b1 := wM_le g.events
 have b2 := wM_le g.parked
 have b3 := wM_nn g.events
 have b4 := wM_nn g.parked
 have hwG : wG g = (g.events.length + wEs g.events) + (g.parked.length + wEs g.parked) := rfl
 have hk : decide (1 + (wM g.events + wM g.parked) < 0) = false := decide_eq_false (by omega)
 refine clY.segG1 hG (n_markGraph g 1 (by decide) (by decide) hg (by omega)) (mGr_len 1 g) trivial ⟨trivial, trivial⟩ (fun m => by simp only [convs, conv]) ?_
 obtain ⟨G2, hG2⟩ : ∃ G2, G2 = obGb 1 (mGr 1 g) := ⟨_, rfl⟩
 have hp2 : Past G2 N := Past.mk' (by rw [hG2, hN, obGb_len]; simp only [mGr, mEvs_len])
 rw [← hG2]
 have hmi := mEnts_length zs.length 1
 have hk2 : decide (1 + 3 * (zs.length : Int) < 0) = false := decide_eq_false (by omega)
 simp only [method_specs_simp, seval, hk, hk2, bne_self_eq_false, Bool.not_true, hp2.len, hp2.g0, hp2.g, hp2.b0, hp2.b, hp2.v0, hp2.v, hp2.a0, hp2.a, hp2.w0, hp2.w, hp2.s0, hp2.s, List.append_assoc, List.cons_append, List.nil_append]
 refine clY.conD 1 (c57 zs zs (by omega)) ?_ ⟨of_eq_true (encEnt_refs _ zs), of_eq_true (encEnt_refs _ zs), trivial⟩ trivial ?_
 · show [dcv 1 _ (.ar (N + 2) 0 zs.length), dcv 1 _ (.sl 3 (zs.map encEnt))] = _
   rw [dcv_flat (zs := zs.map encEnt) (lv := true) (sz := 3)]
   rfl
   simp only [method_specs_simp, seval, hk, hk2, bne_self_eq_false, Bool.not_true, hp2.len, hp2.g0, hp2.g, hp2.b0, hp2.b, hp2.v0, hp2.v, hp2.a0, hp2.a, hp2.w0, hp2.w, hp2.s0, hp2.s, List.append_assoc, List.cons_append, List.nil_append]
   rw [List.length_map]
 simp only [method_specs_simp, seval, hk, hk2, bne_self_eq_false, Bool.not_true, hp2.len, hp2.g0, hp2.g, hp2.b0, hp2.b, hp2.v0, hp2.v, hp2.a0, hp2.a, hp2.w0, hp2.w, hp2.s0, hp2.s, List.append_assoc, List.cons_append, List.nil_append, eqEntS_same]
 refine clY.at1 (q := N + 2) (n58 zs 1 (by decide) (by decide) (by omega)) ?_ (pure_ents _ _) (pure_ents _ _) trivial ⟨trivial, trivial⟩ (by simp only [convs, conv]) ?_
 · simp only [method_specs_simp, seval, hk, hk2, bne_self_eq_false, Bool.not_true, hp2.len, hp2.g0, hp2.g, hp2.b0, hp2.b, hp2.v0, hp2.v, hp2.a0, hp2.a, hp2.w0, hp2.w, hp2.s0, hp2.s, List.append_assoc, List.cons_append, List.nil_append]
 simp only [method_specs_simp, seval, hk, hk2, bne_self_eq_false, Bool.not_true, hp2.len, hp2.g0, hp2.g, hp2.b0, hp2.b, hp2.v0, hp2.v, hp2.a0, hp2.a, hp2.w0, hp2.w, hp2.s0, hp2.s, List.append_assoc, List.cons_append, List.nil_append]
 refine clY.conD 1 (c121 1 zs.length (by decide) (by decide) (by omega)) ?_ ⟨of_eq_true (encEnt_refs _ _), trivial, trivial⟩ trivial ?_
 · show [dcv 1 _ (.ar (N + 2) 0 zs.length), dcv 1 _ (.int .i64 1)] = _
   rw [dcv_flat (zs := (mEnts 1 zs.length).map encEnt) (lv := true) (sz := 3)]
   rfl
   simp only [method_specs_simp, seval, hk, hk2, bne_self_eq_false, Bool.not_true, hp2.len, hp2.g0, hp2.g, hp2.b0, hp2.b, hp2.v0, hp2.v, hp2.a0, hp2.a, hp2.w0, hp2.w, hp2.s0, hp2.s, List.append_assoc, List.cons_append, List.nil_append]
   rw [List.length_map, hmi]
 simp only [method_specs_simp, seval, hk, hk2, bne_self_eq_false, Bool.not_true, hp2.len, hp2.g0, hp2.g, hp2.b0, hp2.b, hp2.v0, hp2.v, hp2.a0, hp2.a, hp2.w0, hp2.w, hp2.s0, hp2.s, List.append_assoc, List.cons_append, List.nil_append]
 refine clY.con (c_toGraph g hg) (by simp only [method_specs_simp, hk, hk2, bne_self_eq_false, Bool.not_true, hp2.len, hp2.g0, hp2.g, hp2.b0, hp2.b, hp2.v0, hp2.v, hp2.a0, hp2.a, hp2.w0, hp2.w, hp2.s0, hp2.s, List.append_assoc, List.cons_append, List.nil_append]) ?_
 simp only [method_specs_simp, seval, hk, hk2, bne_self_eq_false, Bool.not_true, hp2.len, hp2.g0, hp2.g, hp2.b0, hp2.b, hp2.v0, hp2.v, hp2.a0, hp2.a, hp2.w0, hp2.w, hp2.s0, hp2.s, List.append_assoc, List.cons_append, List.nil_append]
 refine clY.newD 0 h47 (dcv_zero _ _) ⟨encGr_ref1 _ g, trivial⟩ trivial (flat1 ⟨rfl, flat_ents _⟩) ?_
 simp only [method_specs_simp, seval, hk, hk2, bne_self_eq_false, Bool.not_true, hp2.len, hp2.g0, hp2.g, hp2.b0, hp2.b, hp2.v0, hp2.v, hp2.a0, hp2.a, hp2.w0, hp2.w, hp2.s0, hp2.s, List.append_assoc, List.cons_append, List.nil_append]
 refine clY.conD 1 (c57 zs zs (by omega)) ?_ ⟨of_eq_true (encEnt_refs _ zs), of_eq_true (encEnt_refs _ zs), trivial⟩ trivial ?_
 · show [dcv 1 _ (.ar (N + 3) 0 zs.length), dcv 1 _ (.sl 3 (zs.map encEnt))] = _
   rw [dcv_flat (zs := zs.map encEnt) (lv := true) (sz := 3)]
   rfl
   simp only [method_specs_simp, seval, hk, hk2, bne_self_eq_false, Bool.not_true, hp2.len, hp2.g0, hp2.g, hp2.b0, hp2.b, hp2.v0, hp2.v, hp2.a0, hp2.a, hp2.w0, hp2.w, hp2.s0, hp2.s, List.append_assoc, List.cons_append, List.nil_append]
   rw [List.length_map]
 simp only [method_specs_simp, seval, hk, hk2, bne_self_eq_false, Bool.not_true, hp2.len, hp2.g0, hp2.g, hp2.b0, hp2.b, hp2.v0, hp2.v, hp2.a0, hp2.a, hp2.w0, hp2.w, hp2.s0, hp2.s, List.append_assoc, List.cons_append, List.nil_append, eqEntS_same]
 refine clY.conD 1 (c121 1 zs.length (by decide) (by decide) (by omega)) ?_ ⟨of_eq_true (encEnt_refs _ _), trivial, trivial⟩ trivial ?_
 · show [dcv 1 _ (.ar (N + 2) 0 zs.length), dcv 1 _ (.int .i64 1)] = _
   rw [dcv_flat (zs := (mEnts 1 zs.length).map encEnt) (lv := true) (sz := 3)]
   rfl
   simp only [method_specs_simp, seval, hk, hk2, bne_self_eq_false, Bool.not_true, hp2.len, hp2.g0, hp2.g, hp2.b0, hp2.b, hp2.v0, hp2.v, hp2.a0, hp2.a, hp2.w0, hp2.w, hp2.s0, hp2.s, List.append_assoc, List.cons_append, List.nil_append]
   rw [List.length_map, hmi]
 simp only [method_specs_simp, seval, hk, hk2, bne_self_eq_false, Bool.not_true, hp2.len, hp2.g0, hp2.g, hp2.b0, hp2.b, hp2.v0, hp2.v, hp2.a0, hp2.a, hp2.w0, hp2.w, hp2.s0, hp2.s, List.append_assoc, List.cons_append, List.nil_append]
theorem currentOf_lawZ (g : Gr) (hg : GrOK g) (h46 : Con P 33 [.agg (encGr g)] (.sl 3 (([] : List Ent).map encEnt))) (h47 : Con P 34 [.agg (encGr g)] .nil) :
   Con P 8 [.agg (encGr g)] (.bool true) := by
 refine Con.of (n := 69) (rs := [.tmp 2]) (Is.fn Tryz.func8) rfl (Is.call Tryz.call8) Tryz.results8 Tryz.ntmps8 trivial ?_
 simp only [method_specs_simp, seval]
 refine clY.con (c_szGraph g 1048576 (by decide) (by decide) hg) (by simp only [method_specs_simp]) ?_
 simp only [method_specs_simp, seval]
 refine gB_split (fun _ => trivial) (fun w1 => ?_)
 obtain ⟨q1, q2, q3⟩ := sb_yes (wG_nn g) w1
 refine clY.con (c_toGraph g hg) (by simp only [method_specs_simp]) ?_
 simp only [method_specs_simp, seval]
 refine clY.con (h46) (by simp only [method_specs_simp]) ?_
 simp only [method_specs_simp, seval]
 refine clY.newD 0 (n_toGraph g hg) (dcv_zero _ _) (by simp only [method_specs_simp]) (grV_flat 0 g) (obG_flat g) ?_
 obtain ⟨G, hG⟩ : ∃ G, G = obGb 1 g := ⟨_, rfl⟩
 obtain ⟨N, hN⟩ : ∃ N, N = g.events.length + 1 + (g.parked.length + 1) := ⟨_, rfl⟩
 have hp : Past G N := Past.mk' (by rw [hG, hN, obGb_len])
 have hA1 : ∀ L : List Ob, (G ++ L)[0]? = some (.arr true 9 (rowsEv 2 g.events)) := fun L => by rw [hG]; rfl
 have hA2 : ∀ (a : Ob) (L : List Ob), (a :: (G ++ L))[1 + (g.events.length + 1)]? = some (.arr true 9 (rowsEv (1 + (g.events.length + 1) + 1) g.parked)) := fun a L => by
   rw [hG]; exact obGb_one g a L
 simp only [method_specs_simp, seval, hp.len, hp.g0, hp.g, hp.b0, hp.b, hp.v0, hp.v, hp.a0, hp.a, hp.w0, hp.w, hp.s0, hp.s, List.append_assoc, List.cons_append, List.nil_append, obG_ren, grV, ← hG, hA1, hA2]
 have hL : ∀ (a : Ob) (L : List Ob), LiesG (a :: (G ++ L)) 1 g := fun a L => LiesG.mk (A := [a]) rfl (by rw [hG]; rfl)
 refine clY.conD 3 h47 ?_ ⟨encGr_ref1 _ g, trivial⟩ trivial ?_
 · show [dcv 3 _ (.agg (grV 1 g))] = _
   rw [(hL _ _).dcv]
 simp only [method_specs_simp, seval, hp.len, hp.g0, hp.g, hp.b0, hp.b, hp.v0, hp.v, hp.a0, hp.a, hp.w0, hp.w, hp.s0, hp.s, List.append_assoc, List.cons_append, List.nil_append]
 refine clY.con (c_eqNilE) (by simp only [method_specs_simp, hp.len, hp.g0, hp.g, hp.b0, hp.b, hp.v0, hp.v, hp.a0, hp.a, hp.w0, hp.w, hp.s0, hp.s, List.append_assoc, List.cons_append, List.nil_append]) ?_
 simp only [method_specs_simp, seval, hp.len, hp.g0, hp.g, hp.b0, hp.b, hp.v0, hp.v, hp.a0, hp.a, hp.w0, hp.w, hp.s0, hp.s, List.append_assoc, List.cons_append, List.nil_append]
 refine ⟨by kernel_rfl, ?_⟩
 refine clY.con (c_toGraph g hg) (by simp only [method_specs_simp, hp.len, hp.g0, hp.g, hp.b0, hp.b, hp.v0, hp.v, hp.a0, hp.a, hp.w0, hp.w, hp.s0, hp.s, List.append_assoc, List.cons_append, List.nil_append]) ?_
 simp only [method_specs_simp, seval, hp.len, hp.g0, hp.g, hp.b0, hp.b, hp.v0, hp.v, hp.a0, hp.a, hp.w0, hp.w, hp.s0, hp.s, List.append_assoc, List.cons_append, List.nil_append]
 refine clY.conD 3 (c_eqGraph g hg) ?_ ⟨encGr_ref1 _ g, encGr_ref1 _ g, trivial⟩ trivial ?_
 · show [dcv 3 _ (.agg (grV 1 g)), dcv 3 _ (.agg (encGr g))] = _
   rw [(hL _ _).dcv, dcv_encG]
 simp only [method_specs_simp, seval, hp.len, hp.g0, hp.g, hp.b0, hp.b, hp.v0, hp.v, hp.a0, hp.a, hp.w0, hp.w, hp.s0, hp.s, List.append_assoc, List.cons_append, List.nil_append, Bool.not_true]
 have b1 := wM_le g.events
 have b2 := wM_le g.parked
 have b3 := wM_nn g.events
 have b4 := wM_nn g.parked
 have hwG : wG g = (g.events.length + wEs g.events) + (g.parked.length + wEs g.parked) := rfl
 have hk : decide (1 + (wM g.events + wM g.parked) < 0) = false := decide_eq_false (by omega)
 refine clY.segG1 hG (n_markGraph g 1 (by decide) (by decide) hg (by omega)) (mGr_len 1 g) trivial ⟨trivial, trivial⟩ (fun m => by simp only [convs, conv]) ?_
 obtain ⟨G2, hG2⟩ : ∃ G2, G2 = obGb 1 (mGr 1 g) := ⟨_, rfl⟩
 have hp2 : Past G2 N := Past.mk' (by rw [hG2, hN, obGb_len]; simp only [mGr, mEvs_len])
 rw [← hG2]
 simp only [method_specs_simp, seval, hk, bne_self_eq_false, Bool.not_true, hp2.len, hp2.g0, hp2.g, hp2.b0, hp2.b, hp2.v0, hp2.v, hp2.a0, hp2.a, hp2.w0, hp2.w, hp2.s0, hp2.s, List.append_assoc, List.cons_append, List.nil_append]
 refine clY.con (c_eqNilE) (by simp only [method_specs_simp, hk, bne_self_eq_false, Bool.not_true, hp2.len, hp2.g0, hp2.g, hp2.b0, hp2.b, hp2.v0, hp2.v, hp2.a0, hp2.a, hp2.w0, hp2.w, hp2.s0, hp2.s, List.append_assoc, List.cons_append, List.nil_append]) ?_
 simp only [method_specs_simp, seval, hk, bne_self_eq_false, Bool.not_true, hp2.len, hp2.g0, hp2.g, hp2.b0, hp2.b, hp2.v0, hp2.v, hp2.a0, hp2.a, hp2.w0, hp2.w, hp2.s0, hp2.s, List.append_assoc, List.cons_append, List.nil_append]
 refine clY.con (c58m 1) (by simp only [method_specs_simp, hk, bne_self_eq_false, Bool.not_true, hp2.len, hp2.g0, hp2.g, hp2.b0, hp2.b, hp2.v0, hp2.v, hp2.a0, hp2.a, hp2.w0, hp2.w, hp2.s0, hp2.s, List.append_assoc, List.cons_append, List.nil_append]) ?_
 simp only [method_specs_simp, seval, hk, bne_self_eq_false, Bool.not_true, hp2.len, hp2.g0, hp2.g, hp2.b0, hp2.b, hp2.v0, hp2.v, hp2.a0, hp2.a, hp2.w0, hp2.w, hp2.s0, hp2.s, List.append_assoc, List.cons_append, List.nil_append]
 refine clY.con (c_heldNilE 1 (by decide) (by decide)) (by simp only [method_specs_simp, hk, bne_self_eq_false, Bool.not_true, hp2.len, hp2.g0, hp2.g, hp2.b0, hp2.b, hp2.v0, hp2.v, hp2.a0, hp2.a, hp2.w0, hp2.w, hp2.s0, hp2.s, List.append_assoc, List.cons_append, List.nil_append]) ?_
 simp only [method_specs_simp, seval, hk, bne_self_eq_false, Bool.not_true, hp2.len, hp2.g0, hp2.g, hp2.b0, hp2.b, hp2.v0, hp2.v, hp2.a0, hp2.a, hp2.w0, hp2.w, hp2.s0, hp2.s, List.append_assoc, List.cons_append, List.nil_append]
 refine clY.con (c_toGraph g hg) (by simp only [method_specs_simp, hk, bne_self_eq_false, Bool.not_true, hp2.len, hp2.g0, hp2.g, hp2.b0, hp2.b, hp2.v0, hp2.v, hp2.a0, hp2.a, hp2.w0, hp2.w, hp2.s0, hp2.s, List.append_assoc, List.cons_append, List.nil_append]) ?_
 simp only [method_specs_simp, seval, hk, bne_self_eq_false, Bool.not_true, hp2.len, hp2.g0, hp2.g, hp2.b0, hp2.b, hp2.v0, hp2.v, hp2.a0, hp2.a, hp2.w0, hp2.w, hp2.s0, hp2.s, List.append_assoc, List.cons_append, List.nil_append]
 refine clY.con (h47) (by simp only [method_specs_simp, hk, bne_self_eq_false, Bool.not_true, hp2.len, hp2.g0, hp2.g, hp2.b0, hp2.b, hp2.v0, hp2.v, hp2.a0, hp2.a, hp2.w0, hp2.w, hp2.s0, hp2.s, List.append_assoc, List.cons_append, List.nil_append]) ?_
 simp only [method_specs_simp, seval, hk, bne_self_eq_false, Bool.not_true, hp2.len, hp2.g0, hp2.g, hp2.b0, hp2.b, hp2.v0, hp2.v, hp2.a0, hp2.a, hp2.w0, hp2.w, hp2.s0, hp2.s, List.append_assoc, List.cons_append, List.nil_append]
 refine clY.con (c_eqNilE) (by simp only [method_specs_simp, hk, bne_self_eq_false, Bool.not_true, hp2.len, hp2.g0, hp2.g, hp2.b0, hp2.b, hp2.v0, hp2.v, hp2.a0, hp2.a, hp2.w0, hp2.w, hp2.s0, hp2.s, List.append_assoc, List.cons_append, List.nil_append]) ?_
 simp only [method_specs_simp, seval, hk, bne_self_eq_false, Bool.not_true, hp2.len, hp2.g0, hp2.g, hp2.b0, hp2.b, hp2.v0, hp2.v, hp2.a0, hp2.a, hp2.w0, hp2.w, hp2.s0, hp2.s, List.append_assoc, List.cons_append, List.nil_append]
 refine clY.con (c_heldNilE 1 (by decide) (by decide)) (by simp only [method_specs_simp, hk, bne_self_eq_false, Bool.not_true, hp2.len, hp2.g0, hp2.g, hp2.b0, hp2.b, hp2.v0, hp2.v, hp2.a0, hp2.a, hp2.w0, hp2.w, hp2.s0, hp2.s, List.append_assoc, List.cons_append, List.nil_append]) ?_
 simp only [method_specs_simp, seval, hk, bne_self_eq_false, Bool.not_true, hp2.len, hp2.g0, hp2.g, hp2.b0, hp2.b, hp2.v0, hp2.v, hp2.a0, hp2.a, hp2.w0, hp2.w, hp2.s0, hp2.s, List.append_assoc, List.cons_append, List.nil_append]
theorem c_FnExactCurrentOf (g : Gr) (hg : GrOK g) : Con P 8 [.agg (encGr g)] (.bool true) := by
 cases hr : Gm.grRight g with
 | true =>
   have hl := SG.len ⟨hg, hr⟩ (curG_SG ⟨hg, hr⟩)
   exact currentOf_law g _ hg (by omega) (c_sCurrentOf g hg hr) (n_CurrentOf g hg hr)
 | false => exact currentOf_lawZ g hg (c_sCurrentOfZ g hg hr) (c_CurrentOfZ g hg hr)
end
end Go.Proofs.YtdldgbkdcpdbeaaGreat
end
