/- The abstract machine: values, objects, and how they lie in the model's memory. The abstract machine: memory, states, and how they move. The abstract machine: states, triples, control. The abstract machine: operations that only read, and make. The abstract machine: each quiet operation. The abstract machine: conditions for each quiet operation, and that they suffice. The abstract machine: each quiet operation is sound. The abstract machine: more quiet operations. The abstract machine: what is built, and made. The abstract machine: make, conversions of bytes, calls. The abstract machine: calls. The abstract machine: stores, appends. The abstract machine: appends. -/
import Derived.Below
import Derived.OwnWalk
import Derived.Laws.Rows
import Derived.Deep.LoopGhost
import Derived.Orders
import Derived.Laws.Cells
import Derived.ChangeKeysEq
import Derived.Laws.Strings
import Derived.Laws.Slices
import Derived.Laws.MakeOwn
import Derived.Laws.BytesString
import Derived.Laws.Append
import Derived.Laws.IdiomStrings
set_option linter.unusedSimpArgs false
set_option linter.unusedVariables false
set_option maxRecDepth 10000
set_option maxHeartbeats 4000000
open List renaming replicate → Za, getElem?_eq_some_iff → Zb, getElem?_append_left → Ze, getElem?_eq_getElem → Zg, getElem?_append_right → Zh, getElem?_set_self → Zi, eq_nil_of_length_eq_zero → Zj, getElem?_set_ne → Zl, mem_cons_self → Zq, mem_cons_of_mem → Zr, getD_eq_getElem?_getD → Zs, getElem?_eq_none → Zu, getElem?_map → Zz, getElem?_take → ZA, mem_cons → ZB, length_cons → ZC, set_append_right → ZD, length_take → ZE, length_pos_iff → ZG, getElem?_cons_succ → ZJ, length_append → ZK, flatten_cons → ZL, length_drop → ZO, range → ZR, map_cons → ZS, replicate_succ → ZT, take_of_length_le → ZV, eq_of_mem_replicate → ZX, map_congr_left → Yd, take_append_of_le_length → Ye, getElem?_drop → Yf, ext_getElem? → Yg, mem_of_getElem? → Yh, getElem?_cons_zero → Yi, flatten_append → Yj, size_toArray → Yk
open Nat renaming zero_add → Zc, le_refl → Zd, add_mul → Zf, lt_or_ge → Zk, one_mul → Zm, add_comm → Zn, add_assoc → Zp, lt_of_lt_of_le → Zt, add_zero → Zy, mul_le_mul_right → ZF, sub_zero → ZH, zero_mul → ZI, add_sub_cancel_left → ZN, le_trans → ZQ, lt_trichotomy → Ya
open Option renaming isSome_iff_exists → Zv, map_some → Zw, map_none → ZP
open Array renaming getElem?_eq_some_iff → Zx, range → ZW, size_append → ZY, toList_append → ZZ, getD_eq_getD_getElem? → Yb, getElem?_toList → Yc
open Bool renaming false_eq_true → ZM
open Int renaming le_refl → ZU
section
section
namespace Go.Pm
inductive V where
 | junk
 | int (k : IntKind) (n : Int)
 | bool (b : Bool)
 | str (s : ByteArray)
 | nil
 | e0
 | sl (sz : Nat) (xs : List (List V))
 | sptr (sz : Nat) (xs : List (List V)) (i off : Nat)
 | fptr (cs : List V) (off : Nat)
 | ar (o off len : Nat)
 | ptr (o off : Nat)
 | eptr (o i off : Nat)
 | fn (f : FuncId) (first caps : List V)
 | map (o : Nat)
 | fmap (ks vs : List V)
 | agg (cs : List V)
 | tup (vs : List V)
 | arc (o off len cap : Nat)
 | np
 deriving Inhabited
inductive Ob where
 | hole
 | dead
 | box (lv : Bool) (cs : List V)
 | arr (lv : Bool) (sz : Nat) (xs : List (List V))
 | mp (lv : Bool) (ks vs : List V)
 deriving Inhabited
structure Lc where
 b : Nat
 cap : Nat
structure Cx where
 w : World
 Z : Nat → Prop
 m : List Ob
 β : List Lc
def Cx.fz (c : Cx) (b : Nat) : Prop:=b < c.w.heap.size ∧ ¬ c.Z b
mutual
def RV (c : Cx) : V → Value → Prop
 | .junk,_=>True
 | .int k n,v=>v = .int k n
 | .bool b,v=>v = .bool b
 | .str s,v=>v = .string s
 | .nil,v=>v = .slice none 0 0
 | .e0,v=>∃ A,v = .slice A 0 0
 | .np,v=>v = .pointer none
 | .sl sz xs,v=>∃ A cp,v = .slice A xs.length cp ∧ xs.length ≤ cp ∧ xs.length < 2 ^ 63 ∧ (xs = [] ∨ ∃ b o,A = some ⟨b,o,none⟩ ∧ c.fz b ∧ RR c sz b o xs)
 | .sptr sz xs i off,v=>∃ b o,v = .pointer (some ⟨b,o + i * sz + off,none⟩) ∧ c.fz b ∧ RR c sz b o xs
 | .fptr cs off,v=>∃ b,v = .pointer (some ⟨b,off,none⟩) ∧ c.fz b ∧ RC c b 0 cs
 | .ar o off len,v=>match c.m[o]?,c.β[o]? with
   | some (.arr _ sz xs),some l=>off + len ≤ xs.length ∧ ∃ A,v = .slice A len (l.cap - off) ∧ (off < l.cap → A = some ⟨l.b,off * sz,none⟩)
   | some .dead,_=>True
   | _,_=>False
 | .ptr o off,v=>match c.m[o]?,c.β[o]? with
   | some (.box _ _),some l=>v = .pointer (some ⟨l.b,off,none⟩)
   | some .dead,_=>True
   | _,_=>False
 | .eptr o i off,v=>match c.m[o]?,c.β[o]? with
   | some (.arr _ sz xs),some l=>v = .pointer (some ⟨l.b,i * sz + off,none⟩)
   | some .dead,_=>True
   | _,_=>False
 | .fn f fs cs,v=>∃ us vs,v = .func (.func f) us vs ∧ RVs c fs us.toList ∧ RVs c cs vs.toList
 | .map o,v=>match c.m[o]?,c.β[o]? with
   | some (.mp _ _ _),some l=>v = .map (some l.b)
   | some .dead,_=>True
   | _,_=>False
 | .fmap ks vs,v=>∃ b es n,v = .map (some b) ∧ c.fz b ∧ c.w.heap[b]? = some (.map es n) ∧ RVs c ks (es.toList.map (·.key)) ∧ RVs c vs (es.toList.map (·.val))
 | .agg cs,v=>∃ us,v = .agg us ∧ RVs c cs us.toList
 | .tup cs,v=>∃ us,v = .tuple us ∧ RVs c cs us.toList
 | .arc o off len cap,v=>match c.m[o]?,c.β[o]? with
   | some (.arr _ sz xs),some l=>l.cap = off + cap ∧ off + len ≤ xs.length ∧ ∃ A,v = .slice A len cap ∧ (0 < cap → A = some ⟨l.b,off * sz,none⟩)
   | some .dead,_=>True
   | _,_=>False
def RVs (c : Cx) : List V → List Value → Prop
 | [],us=>us = []
 | x :: xs,us=>∃ u us',us = u :: us' ∧ RV c x u ∧ RVs c xs us'
def RC (c : Cx) (b o : Nat) : List V → Prop
 | []=>True
 | x :: xs=>(∃ u,c.w.cell? ⟨b,o,none⟩ = some u ∧ RV c x u) ∧ RC c b (o + 1) xs
def RR (c : Cx) (sz b o : Nat) : List (List V) → Prop
 | []=>True
 | x :: xs=>x.length = sz ∧ RC c b o x ∧ RR c sz b (o + sz) xs
end
mutual
def Ref (ok : Nat → Prop) : V → Prop
 | .ar o _ _=>ok o
 | .ptr o _=>ok o
 | .eptr o _ _=>ok o
 | .map o=>ok o
 | .sl _ xs=>Refss ok xs
 | .sptr _ xs _ _=>Refss ok xs
 | .fptr cs _=>Refs ok cs
 | .fn _ fs cs=>Refs ok fs ∧ Refs ok cs
 | .fmap ks vs=>Refs ok ks ∧ Refs ok vs
 | .agg cs=>Refs ok cs
 | .tup cs=>Refs ok cs
 | .arc o _ _ _=>ok o
 | _=>True
def Refs (ok : Nat → Prop) : List V → Prop
 | []=>True
 | x :: xs=>Ref ok x ∧ Refs ok xs
def Refss (ok : Nat → Prop) : List (List V) → Prop
 | []=>True
 | x :: xs=>Refs ok x ∧ Refss ok xs
end
mutual
def V.ren (ρ : Nat → Nat) : V → V
 | .ar o off len=>.ar (ρ o) off len
 | .ptr o off=>.ptr (ρ o) off
 | .eptr o i off=>.eptr (ρ o) i off
 | .map o=>.map (ρ o)
 | .sl sz xs=>.sl sz (renss ρ xs)
 | .sptr sz xs i off=>.sptr sz (renss ρ xs) i off
 | .fptr cs off=>.fptr (rens ρ cs) off
 | .fn f fs cs=>.fn f (rens ρ fs) (rens ρ cs)
 | .fmap ks vs=>.fmap (rens ρ ks) (rens ρ vs)
 | .agg cs=>.agg (rens ρ cs)
 | .tup cs=>.tup (rens ρ cs)
 | .arc o off len cap=>.arc (ρ o) off len cap
 | .junk=>.junk
 | .int k n=>.int k n
 | .bool b=>.bool b
 | .str s=>.str s
 | .nil=>.nil
 | .e0=>.e0
 | .np=>.np
def rens (ρ : Nat → Nat) : List V → List V
 | []=>[]
 | x :: xs=>x.ren ρ :: rens ρ xs
def renss (ρ : Nat → Nat) : List (List V) → List (List V)
 | []=>[]
 | x :: xs=>rens ρ x :: renss ρ xs
end
theorem rens_length (ρ : Nat → Nat) : ∀ xs : List V,(rens ρ xs).length = xs.length
 | []=>rfl
 | x :: xs=>by simp [rens,rens_length ρ xs]
theorem renss_length (ρ : Nat → Nat) : ∀ xs : List (List V),(renss ρ xs).length = xs.length
 | []=>rfl
 | x :: xs=>by simp [renss,renss_length ρ xs]
mutual
theorem V.ren_id : ∀ x : V,x.ren (fun o=>o) = x
 | .ar o off len=>rfl
 | .ptr o off=>rfl
 | .eptr o i off=>rfl
 | .map o=>rfl
 | .sl sz xs=>by simp [V.ren,renss_id xs]
 | .sptr sz xs i off=>by simp [V.ren,renss_id xs]
 | .fptr cs off=>by simp [V.ren,rens_id cs]
 | .fn f fs cs=>by simp [V.ren,rens_id fs,rens_id cs]
 | .fmap ks vs=>by simp [V.ren,rens_id ks,rens_id vs]
 | .agg cs=>by simp [V.ren,rens_id cs]
 | .tup cs=>by simp [V.ren,rens_id cs]
 | .arc o off len cap=>rfl
 | .junk=>rfl
 | .int k n=>rfl
 | .bool b=>rfl
 | .str s=>rfl
 | .nil=>rfl
 | .e0=>rfl
 | .np=>rfl
theorem rens_id : ∀ xs : List V,rens (fun o=>o) xs = xs
 | []=>rfl
 | x :: xs=>by simp [rens,V.ren_id x,rens_id xs]
theorem renss_id : ∀ xs : List (List V),renss (fun o=>o) xs = xs
 | []=>rfl
 | x :: xs=>by simp [renss,rens_id x,renss_id xs]
end
mutual
theorem V.ren_pure {ρ : Nat → Nat} : ∀ x : V,Ref (fun _=>False) x → x.ren ρ = x
 | .ar o off len,h=>h.elim
 | .ptr o off,h=>h.elim
 | .eptr o i off,h=>h.elim
 | .map o,h=>h.elim
 | .sl sz xs,h=>by simp [V.ren,renss_pure xs h]
 | .sptr sz xs i off,h=>by simp [V.ren,renss_pure xs h]
 | .fptr cs off,h=>by simp [V.ren,rens_pure cs h]
 | .fn f fs cs,h=>by simp [V.ren,rens_pure fs h.1,rens_pure cs h.2]
 | .fmap ks vs,h=>by simp [V.ren,rens_pure ks h.1,rens_pure vs h.2]
 | .agg cs,h=>by simp [V.ren,rens_pure cs h]
 | .tup cs,h=>by simp [V.ren,rens_pure cs h]
 | .arc o off len cap,h=>h.elim
 | .junk,_=>rfl
 | .int k n,_=>rfl
 | .bool b,_=>rfl
 | .str s,_=>rfl
 | .nil,_=>rfl
 | .e0,_=>rfl
 | .np,_=>rfl
theorem rens_pure {ρ : Nat → Nat} : ∀ xs : List V,Refs (fun _=>False) xs → rens ρ xs = xs
 | [],_=>rfl
 | x :: xs,h=>by simp [rens,V.ren_pure x h.1,rens_pure xs h.2]
theorem renss_pure {ρ : Nat → Nat} : ∀ xs : List (List V),Refss (fun _=>False) xs → renss ρ xs = xs
 | [],_=>rfl
 | x :: xs,h=>by simp [renss,rens_pure x h.1,renss_pure xs h.2]
end
mutual
theorem Ref.mono {p q : Nat → Prop} (hpq : ∀ o,p o → q o) : ∀ x : V,Ref p x → Ref q x
 | .ar o off len,h=>hpq _ h
 | .ptr o off,h=>hpq _ h
 | .eptr o i off,h=>hpq _ h
 | .map o,h=>hpq _ h
 | .sl sz xs,h=>Refss.mono hpq xs h
 | .sptr sz xs i off,h=>Refss.mono hpq xs h
 | .fptr cs off,h=>Refs.mono hpq cs h
 | .fn f fs cs,h=>⟨Refs.mono hpq fs h.1,Refs.mono hpq cs h.2⟩
 | .fmap ks vs,h=>⟨Refs.mono hpq ks h.1,Refs.mono hpq vs h.2⟩
 | .agg cs,h=>Refs.mono hpq cs h
 | .tup cs,h=>Refs.mono hpq cs h
 | .arc o off len cap,h=>hpq _ h
 | .junk,_=>trivial
 | .int k n,_=>trivial
 | .bool b,_=>trivial
 | .str s,_=>trivial
 | .nil,_=>trivial
 | .e0,_=>trivial
 | .np,_=>trivial
theorem Refs.mono {p q : Nat → Prop} (hpq : ∀ o,p o → q o) : ∀ xs : List V,Refs p xs → Refs q xs
 | [],_=>trivial
 | x :: xs,h=>⟨Ref.mono hpq x h.1,Refs.mono hpq xs h.2⟩
theorem Refss.mono {p q : Nat → Prop} (hpq : ∀ o,p o → q o) : ∀ xs : List (List V),Refss p xs → Refss q xs
 | [],_=>trivial
 | x :: xs,h=>⟨Refs.mono hpq x h.1,Refss.mono hpq xs h.2⟩
end
mutual
theorem Ref.all : ∀ x : V,Ref (fun _=>True) x
 | .ar o off len=>trivial
 | .ptr o off=>trivial
 | .eptr o i off=>trivial
 | .map o=>trivial
 | .sl sz xs=>Refss.all xs
 | .sptr sz xs i off=>Refss.all xs
 | .fptr cs off=>Refs.all cs
 | .fn f fs cs=>⟨Refs.all fs,Refs.all cs⟩
 | .fmap ks vs=>⟨Refs.all ks,Refs.all vs⟩
 | .agg cs=>Refs.all cs
 | .tup cs=>Refs.all cs
 | .arc o off len cap=>trivial
 | .junk=>trivial
 | .int k n=>trivial
 | .bool b=>trivial
 | .str s=>trivial
 | .nil=>trivial
 | .e0=>trivial
 | .np=>trivial
theorem Refs.all : ∀ xs : List V,Refs (fun _=>True) xs
 | []=>trivial
 | x :: xs=>⟨Ref.all x,Refs.all xs⟩
theorem Refss.all : ∀ xs : List (List V),Refss (fun _=>True) xs
 | []=>trivial
 | x :: xs=>⟨Refs.all x,Refss.all xs⟩
end
theorem Refs.mem {p : Nat → Prop} : ∀ {xs : List V} {x : V},Refs p xs → x ∈ xs → Ref p x
 | y :: ys,x,h,hx=>by
   rcases ZB.1 hx with rfl | hx
   ·exact h.1
   ·exact Refs.mem h.2 hx
theorem Refss.mem {p : Nat → Prop} : ∀ {xs : List (List V)} {x : List V},Refss p xs → x ∈ xs → Refs p x
 | y :: ys,x,h,hx=>by
   rcases ZB.1 hx with rfl | hx
   ·exact h.1
   ·exact Refss.mem h.2 hx
theorem Refss.of {p : Nat → Prop} : ∀ {xs : List (List V)},(∀ x ∈ xs,Refs p x) → Refss p xs
 | [],_=>trivial
 | y :: ys,h=>⟨h y Zq,Refss.of fun x hx=>h x (Zr _ hx)⟩
def obLe : Option Ob → Option Lc → Option Ob → Option Lc → Prop
 | some (.arr _ sz xs),some l,x,y=>x = some .dead ∨ ∃ lv xs',x = some (.arr lv sz xs') ∧ y = some l ∧ xs.length ≤ xs'.length
 | some (.box _ _),some l,x,y=>x = some .dead ∨ ∃ lv cs l',x = some (.box lv cs) ∧ y = some l' ∧ l'.b = l.b
 | some (.mp _ _ _),some l,x,y=>x = some .dead ∨ ∃ lv ks vs l',x = some (.mp lv ks vs) ∧ y = some l' ∧ l'.b = l.b
 | some .dead,_,x,_=>x = some .dead
 | _,_,_,_=>True
theorem obLe_refl (x : Option Ob) (y : Option Lc) : obLe x y x y:=by
 unfold obLe
 split
 ·exact .inr ⟨_,_,rfl,rfl,Zd _⟩
 ·exact .inr ⟨_,_,_,rfl,rfl,rfl⟩
 ·exact .inr ⟨_,_,_,_,rfl,rfl,rfl⟩
 ·rfl
 ·trivial
structure Tr (c c' : Cx) (ρ : Nat → Nat) (ok : Nat → Prop) : Prop where
 fz : ∀ b,c.fz b → c'.fz b ∧ c'.w.heap[b]? = c.w.heap[b]?
 ob : ∀ o,ok o → obLe c.m[o]? c.β[o]? c'.m[ρ o]? c'.β[ρ o]?
theorem cell_of_heap {w w' : World} {b o : Nat} (h : w'.heap[b]? = w.heap[b]?) : w'.cell? ⟨b,o,none⟩ = w.cell? ⟨b,o,none⟩:=World.cell?_of_block (a:=⟨b,o,none⟩) h
section
variable {c c' : Cx} {ρ : Nat → Nat} {ok : Nat → Prop}
mutual
theorem RV.tr (h : Tr c c' ρ ok) : ∀ (x : V) (v : Value),Ref ok x → RV c x v → RV c' (x.ren ρ) v
 | .junk,v,_,_=>trivial
 | .int k n,v,_,r=>r
 | .bool b,v,_,r=>r
 | .str s,v,_,r=>r
 | .nil,v,_,r=>r
 | .e0,v,_,r=>r
 | .np,v,_,r=>r
 | .sl sz xs,v,k,⟨A,cp,e,h1,h2,h3⟩=>by
   refine ⟨A,cp,by rw [renss_length]; exact e,by rw [renss_length]; exact h1,by rw [renss_length]; exact h2,?_⟩
   rcases h3 with rfl | ⟨b,o,ha,hf,hr⟩
   ·exact .inl rfl
   ·exact .inr ⟨b,o,ha,(h.fz b hf).1,RR.tr h sz b (h.fz b hf).2 xs o k hr⟩
 | .sptr sz xs i off,v,k,⟨b,o,e,hf,hr⟩=>⟨b,o,e,(h.fz b hf).1,RR.tr h sz b (h.fz b hf).2 xs o k hr⟩
 | .fptr cs off,v,k,⟨b,e,hf,hr⟩=>⟨b,e,(h.fz b hf).1,RC.tr h b (h.fz b hf).2 cs 0 k hr⟩
 | .ar o off len,v,k,r=>by
   have ho:=h.ob o k
   unfold RV at r
   unfold V.ren RV
   revert r ho
   cases h1 : c.m[o]? with
   | none=>exact fun _ r=>r.elim
   | some ob =>
    cases h2 : c.β[o]? with
    | none=>cases ob <;> (intro ho r; first | exact r.elim | (unfold obLe at ho; rw [ho]; trivial))
    | some l =>
     cases ob <;> (intro ho r; first | exact r.elim | skip)
     ·unfold obLe at ho
      rw [ho]; trivial
     ·obtain ⟨q,A,e,hA⟩:=r
      unfold obLe at ho
      rcases ho with ho | ⟨lv,xs',ho,hy,hl⟩
      ·rw [ho]; trivial
      ·rw [ho,hy]
       exact ⟨by omega,A,e,hA⟩
 | .arc o off len cap,v,k,r=>by
   have ho:=h.ob o k
   unfold RV at r
   unfold V.ren RV
   revert r ho
   cases h1 : c.m[o]? with
   | none=>exact fun _ r=>r.elim
   | some ob =>
    cases h2 : c.β[o]? with
    | none=>cases ob <;> (intro ho r; first | exact r.elim | (unfold obLe at ho; rw [ho]; trivial))
    | some l =>
     cases ob <;> (intro ho r; first | exact r.elim | skip)
     ·unfold obLe at ho
      rw [ho]; trivial
     ·obtain ⟨q0,q,A,e,hA⟩:=r
      unfold obLe at ho
      rcases ho with ho | ⟨lv,xs',ho,hy,hl⟩
      ·rw [ho]; trivial
      ·rw [ho,hy]
       exact ⟨q0,by omega,A,e,hA⟩
 | .ptr o off,v,k,r=>by
   have ho:=h.ob o k
   unfold RV at r
   unfold V.ren RV
   revert r ho
   cases h1 : c.m[o]? with
   | none=>exact fun _ r=>r.elim
   | some ob =>
    cases h2 : c.β[o]? with
    | none=>cases ob <;> (intro ho r; first | exact r.elim | (unfold obLe at ho; rw [ho]; trivial))
    | some l =>
     cases ob <;> (intro ho r; first | exact r.elim | skip)
     ·unfold obLe at ho
      rw [ho]; trivial
     ·unfold obLe at ho
      rcases ho with ho | ⟨lv,cs,l',ho,hy,hb⟩
      ·rw [ho]; trivial
      ·rw [ho,hy]
       show v = .pointer (some ⟨l'.b,off,none⟩)
       rw [hb]; exact r
 | .eptr o i off,v,k,r=>by
   have ho:=h.ob o k
   unfold RV at r
   unfold V.ren RV
   revert r ho
   cases h1 : c.m[o]? with
   | none=>exact fun _ r=>r.elim
   | some ob =>
    cases h2 : c.β[o]? with
    | none=>cases ob <;> (intro ho r; first | exact r.elim | (unfold obLe at ho; rw [ho]; trivial))
    | some l =>
     cases ob <;> (intro ho r; first | exact r.elim | skip)
     ·unfold obLe at ho
      rw [ho]; trivial
     ·unfold obLe at ho
      rcases ho with ho | ⟨lv,cs,ho,hy,hl⟩
      ·rw [ho]; trivial
      ·rw [ho,hy]
       exact r
 | .map o,v,k,r=>by
   have ho:=h.ob o k
   unfold RV at r
   unfold V.ren RV
   revert r ho
   cases h1 : c.m[o]? with
   | none=>exact fun _ r=>r.elim
   | some ob =>
    cases h2 : c.β[o]? with
    | none=>cases ob <;> (intro ho r; first | exact r.elim | (unfold obLe at ho; rw [ho]; trivial))
    | some l =>
     cases ob <;> (intro ho r; first | exact r.elim | skip)
     ·unfold obLe at ho
      rw [ho]; trivial
     ·unfold obLe at ho
      rcases ho with ho | ⟨lv,ks,vs,l',ho,hy,hb⟩
      ·rw [ho]; trivial
      ·rw [ho,hy]
       show v = .map (some l'.b)
       rw [hb]; exact r
 | .fn f fs cs,v,k,⟨us,vs,e,h1,h2⟩=>⟨us,vs,e,RVs.tr h fs us.toList k.1 h1,RVs.tr h cs vs.toList k.2 h2⟩
 | .fmap ks vs,v,k,⟨b,es,n,e,hf,hh,h1,h2⟩=>⟨b,es,n,e,(h.fz b hf).1,(h.fz b hf).2.trans hh,RVs.tr h ks _ k.1 h1,RVs.tr h vs _ k.2 h2⟩
 | .agg cs,v,k,⟨us,e,r⟩=>⟨us,e,RVs.tr h cs us.toList k r⟩
 | .tup cs,v,k,⟨us,e,r⟩=>⟨us,e,RVs.tr h cs us.toList k r⟩
theorem RVs.tr (h : Tr c c' ρ ok) : ∀ (xs : List V) (us : List Value),Refs ok xs → RVs c xs us → RVs c' (rens ρ xs) us
 | [],us,_,r=>r
 | x :: xs,us,k,⟨u,us',e,r,rs⟩=>⟨u,us',e,RV.tr h x u k.1 r,RVs.tr h xs us' k.2 rs⟩
theorem RC.tr (h : Tr c c' ρ ok) (b : Nat) (hb : c'.w.heap[b]? = c.w.heap[b]?) : ∀ (xs : List V) (o : Nat),Refs ok xs → RC c b o xs → RC c' b o (rens ρ xs)
 | [],o,_,_=>trivial
 | x :: xs,o,k,⟨⟨u,e,r⟩,rs⟩=>⟨⟨u,(cell_of_heap hb).trans e,RV.tr h x u k.1 r⟩,RC.tr h b hb xs (o + 1) k.2 rs⟩
theorem RR.tr (h : Tr c c' ρ ok) (sz b : Nat) (hb : c'.w.heap[b]? = c.w.heap[b]?) : ∀ (xs : List (List V)) (o : Nat),Refss ok xs → RR c sz b o xs → RR c' sz b o (renss ρ xs)
 | [],o,_,_=>trivial
 | x :: xs,o,k,⟨e,r,rs⟩=>⟨by rw [rens_length]; exact e,RC.tr h b hb x o k.1 r,RR.tr h sz b hb xs (o + sz) k.2 rs⟩
end
end
def Cx.le (c c' : Cx) : Prop:=Tr c c' (fun o=>o) (fun _=>True)
theorem Cx.le.refl (c : Cx) : c.le c:=⟨fun b h=>⟨h,rfl⟩,fun o _=>obLe_refl _ _⟩
theorem RV.mono {c c' : Cx} (h : c.le c') {x : V} {v : Value} (r : RV c x v) : RV c' x v:=by
 have:=RV.tr h x v (Ref.all x) r
 rwa [V.ren_id] at this
theorem RVs.mono {c c' : Cx} (h : c.le c') {x : List V} {v : List Value} (r : RVs c x v) : RVs c' x v:=by
 have:=RVs.tr h x v (Refs.all x) r
 rwa [rens_id] at this
theorem RC.mono {c c' : Cx} (h : c.le c') {b o : Nat} {x : List V} (hb : c'.w.heap[b]? = c.w.heap[b]?) (r : RC c b o x) : RC c' b o x:=by
 have:=RC.tr h b hb x o (Refs.all x) r
 rwa [rens_id] at this
theorem RR.mono {c c' : Cx} (h : c.le c') {sz b o : Nat} {x : List (List V)} (hb : c'.w.heap[b]? = c.w.heap[b]?) (r : RR c sz b o x) : RR c' sz b o x:=by
 have:=RR.tr h sz b hb x o (Refss.all x) r
 rwa [renss_id] at this
end Go.Pm
end
section
namespace Go.Pm
open Go.RowKit
def Ob.blk : Ob → Lc → Option Nat
 | .box true _,l=>some l.b
 | .arr true _ _,l=>if l.cap = 0 then none else some l.b
 | .mp true _ _,l=>some l.b
 | _,_=>none
def liveAt (m : List Ob) (β : List Lc) (b : Nat) : Prop:=∃ (o : Nat) (ob : Ob) (l : Lc),m[o]? = some ob ∧ β[o]? = some l ∧ ob.blk l = some b
def cx (w : World) (Zo : Nat → Prop) (m : List Ob) (β : List Lc) : Cx:=⟨w,fun b=>Zo b ∨ liveAt m β b,m,β⟩
def NoFr (n : Nat) (fr : Nat × Nat) : Prop:=∀ j,j < n → ¬ (fr.1 ≤ j ∧ j < fr.2)
def tlS (sz : Nat) : Nat:=if sz = 1 then 0 else 1
theorem NoFr.less {n k : Nat} {fr : Nat × Nat} (h : NoFr (n + k) fr) : NoFr n fr:=fun j hj=>h j (by omega)
theorem NoFr.last (n : Nat) : NoFr n (n,n + 1):=fun j h1 h=>by have:=h.1; simp at this; omega
theorem NoFr.zero (n : Nat) : NoFr n (0,0):=fun j _ h=>by have:=h.2; simp at this
def Born (es : Array MapEntry) (n : Nat) : Prop:=n = es.size ∧ ∀ (i : Nat) (e : MapEntry),es[i]? = some e → e.born = i
def OK (c : Cx) (l : Lc) : Ob → Prop
 | .hole=>True
 | .dead=>True
 | .box lv cs=>∃ us e fr,c.w.heap[l.b]? = some (.cells us e fr) ∧ us.size = cs.length ∧ NoFr us.size fr ∧ RC c l.b 0 cs ∧ (lv = true ∨ c.fz l.b)
 | .arr lv sz xs=>xs.length ≤ l.cap ∧ l.cap < 2 ^ 63 ∧ 0 < sz ∧ (l.cap = 0 ∨ ∃ us e fr,c.w.heap[l.b]? = some (.cells us e fr) ∧ us.size = l.cap * sz ∧ NoFr (us.size + tlS sz) fr ∧ RR c sz l.b 0 xs ∧ (lv = true ∨ c.fz l.b))
 | .mp lv ks vs=>∃ es n,c.w.heap[l.b]? = some (.map es n) ∧ RVs c ks (es.toList.map (·.key)) ∧ RVs c vs (es.toList.map (·.val)) ∧ Born es n ∧ (lv = true ∨ c.fz l.b)
theorem OK.mono {c c' : Cx} (h : c.le c') {l : Lc} {ob : Ob} (hb : ∀ b,ob.blk l = some b → c'.w.heap[b]? = c.w.heap[b]?) (k : OK c l ob) : OK c' l ob:=by
 have hx : ∀ lv : Bool,(lv = true → c'.w.heap[l.b]? = c.w.heap[l.b]?) → (lv = true ∨ c.fz l.b) → c'.w.heap[l.b]? = c.w.heap[l.b]? ∧ (lv = true ∨ c'.fz l.b):=by
  intro lv h1 h2
  rcases h2 with h2 | h2
  ·exact ⟨h1 h2,.inl h2⟩
  ·exact ⟨(h.fz _ h2).2,.inr (h.fz _ h2).1⟩
 cases ob with
 | hole=>trivial
 | dead=>trivial
 | box lv cs =>
  obtain ⟨us,e,fr,h1,h2,h3,h4,h5⟩:=k
  obtain ⟨g1,g2⟩:=hx lv (fun q=>hb _ (by subst q; rfl)) h5
  exact ⟨us,e,fr,g1.trans h1,h2,h3,h4.mono h g1,g2⟩
 | arr lv sz xs =>
  obtain ⟨h1,h2,h3,h4⟩:=k
  refine ⟨h1,h2,h3,?_⟩
  by_cases hc : l.cap = 0
  ·exact .inl hc
  ·rcases h4 with h4 | ⟨us,e,fr,g1,g2,g3,g4,g5⟩
   ·exact .inl h4
   ·obtain ⟨q1,q2⟩:=hx lv (fun q=>hb _ (by subst q; simp [Ob.blk,hc])) g5
    exact .inr ⟨us,e,fr,q1.trans g1,g2,g3,g4.mono h q1,q2⟩
 | mp lv ks vs =>
  obtain ⟨es,n,h1,h2,h3,hbn,h4⟩:=k
  obtain ⟨g1,g2⟩:=hx lv (fun q=>hb _ (by subst q; rfl)) h4
  exact ⟨es,n,g1.trans h1,h2.mono h,h3.mono h,hbn,g2⟩
structure Mem (w : World) (Zo : Nat → Prop) (m : List Ob) (β : List Lc) : Prop where
 len : β.length = m.length
 ok : ∀ (o : Nat) (ob : Ob) (l : Lc),m[o]? = some ob → β[o]? = some l → OK (cx w Zo m β) l ob
 sep : ∀ (o o' : Nat) (ob ob' : Ob) (l l' : Lc) (b : Nat),m[o]? = some ob → m[o']? = some ob' → β[o]? = some l → β[o']? = some l' → ob.blk l = some b → ob'.blk l' = some b → o = o'
 out : ∀ b,liveAt m β b → ¬ Zo b
 zlt : ∀ b,Zo b → b < w.heap.size
theorem blk_lt {c : Cx} {l : Lc} {ob : Ob} {b : Nat} (k : OK c l ob) (h : ob.blk l = some b) : l.b = b ∧ b < c.w.heap.size:=by
 cases ob with
 | hole=>simp [Ob.blk] at h
 | dead=>simp [Ob.blk] at h
 | box lv cs =>
  cases lv
  ·simp [Ob.blk] at h
  ·simp only [Ob.blk,Option.some.injEq] at h
   obtain ⟨us,e,fr,h1,_⟩:=k
   subst h
   exact ⟨rfl,(Zx.1 h1).1⟩
 | arr lv sz xs =>
  cases lv
  ·simp [Ob.blk] at h
  ·simp only [Ob.blk] at h
   split at h
   ·cases h
   ·rename_i hc
    simp only [Option.some.injEq] at h
    obtain ⟨_,_,_,h4⟩:=k
    rcases h4 with h4 | ⟨us,e,fr,h1,_⟩
    ·exact absurd h4 hc
    ·subst h
     exact ⟨rfl,(Zx.1 h1).1⟩
 | mp lv ks vs =>
  cases lv
  ·simp [Ob.blk] at h
  ·simp only [Ob.blk,Option.some.injEq] at h
   obtain ⟨es,n,h1,_⟩:=k
   subst h
   exact ⟨rfl,(Zx.1 h1).1⟩
theorem Mem.live_lt {w : World} {Zo : Nat → Prop} {m : List Ob} {β : List Lc} (h : Mem w Zo m β) {b : Nat} (k : liveAt m β b) : b < w.heap.size:=by
 obtain ⟨o,ob,l,h1,h2,h3⟩:=k
 exact (blk_lt (h.ok o ob l h1 h2) h3).2
theorem Mem.at_ {w : World} {Zo : Nat → Prop} {m : List Ob} {β : List Lc} (h : Mem w Zo m β) {o : Nat} {ob : Ob} (hm : m[o]? = some ob) : ∃ l,β[o]? = some l ∧ OK (cx w Zo m β) l ob:=by
 have hl : o < β.length:=by rw [h.len]; exact (Zb.1 hm).1
 exact ⟨β[o],Zg hl,h.ok o ob _ hm (Zg hl)⟩
structure Frame (E : Nat → Prop) (w0 w : World) : Prop where
 os : w.os = w0.os
 tape : w.tape = w0.tape
 output : w.output = w0.output
 size : w0.heap.size ≤ w.heap.size
 block : ∀ b,b < w0.heap.size → ¬ E b → w.heap[b]? = w0.heap[b]?
 drawn : w0.drawn ≤ w.drawn
theorem Frame.refl (E : Nat → Prop) (w : World) : Frame E w w:=⟨rfl,rfl,rfl,Zd _,fun _ _ _=>rfl,Zd _⟩
theorem Frame.trans {E : Nat → Prop} {a b c : World} (h : Frame E a b) (k : Frame E b c) : Frame E a c :=
 ⟨k.os.trans h.os,k.tape.trans h.tape,k.output.trans h.output,ZQ h.size k.size,fun i hi hE=>(k.block i (Zt hi h.size) hE).trans (h.block i hi hE),ZQ h.drawn k.drawn⟩
theorem Frame.mono {E E' : Nat → Prop} {a b : World} (h : Frame E a b) (hE : ∀ i,E i → E' i) : Frame E' a b:=⟨h.os,h.tape,h.output,h.size,fun i hi k=>h.block i hi fun q=>k (hE i q),h.drawn⟩
def Grow (w w' : World) : Prop:=Frame (fun _=>False) w w'
theorem Grow.block {w w' : World} (h : Grow w w') (b : Nat) (hb : b < w.heap.size) : w'.heap[b]? = w.heap[b]?:=Frame.block h b hb (fun q=>q)
theorem Grow.refl (w : World) : Grow w w:=Frame.refl _ w
theorem Grow.alloc (w : World) (o : Obj) : Grow w (w.alloc o):=⟨rfl,rfl,rfl,by simp,fun b hb _=>Below.heap_alloc w o b hb,Zd _⟩
theorem Grow.drew (w : World) : Grow w w.drew:=⟨rfl,rfl,rfl,Zd _,fun _ _ _=>rfl,Nat.le_succ _⟩
theorem Grow.trans {a b c : World} (h : Grow a b) (k : Grow b c) : Grow a c:=Frame.trans h k
section
variable {w w' : World} {Zo : Nat → Prop} {m : List Ob} {β : List Lc}
theorem cx_le_grow (h : Grow w w') : (cx w Zo m β).le (cx w' Zo m β) :=
 ⟨fun b hb=>⟨⟨Zt hb.1 h.size,hb.2⟩,h.block b hb.1⟩,fun o _=>obLe_refl _ _⟩
theorem Mem.grow (M : Mem w Zo m β) (h : Grow w w') : Mem w' Zo m β :=
 ⟨M.len,fun o ob l h1 h2=>(M.ok o ob l h1 h2).mono (cx_le_grow h) (fun b hb=>h.block b (blk_lt (M.ok o ob l h1 h2) hb).2),M.sep,M.out,fun b hb=>Zt (M.zlt b hb) h.size⟩
end
theorem getElem?_append_one {α : Type} (l : List α) (x y : α) (o : Nat) (h : (l ++ [x])[o]? = some y) : l[o]? = some y ∨ (o = l.length ∧ y = x):=by
 rcases Ya o l.length with h1 | h1 | h1
 ·rw [Ze h1] at h; exact .inl h
 ·subst h1; simp at h; exact .inr ⟨rfl,h.symm⟩
 ·rw [Zh (by omega)] at h
  rw [Zu (by simp; omega)] at h
  cases h
theorem getElem?_append_old {α : Type} {l : List α} {y : α} {o : Nat} (h : l[o]? = some y) (x : List α) : (l ++ x)[o]? = some y:=by
 rw [Ze (Zb.1 h).1]; exact h
theorem getElem?_append_holes {α : Type} {l : List α} {y x : α} {o n : Nat} (h : (l ++ Za n x)[o]? = some y) : l[o]? = some y ∨ (l.length ≤ o ∧ y = x):=by
 rcases Zk o l.length with h1 | h1
 ·rw [Ze h1] at h; exact .inl h
 ·rw [Zh h1,List.getElem?_replicate] at h
  split at h
  ·simp at h; exact .inr ⟨h1,h.symm⟩
  ·cases h
theorem obLe_append {m m1 : List Ob} {β β1 : List Lc} (hl : β.length = m.length) (o : Nat) : obLe m[o]? β[o]? (m ++ m1)[o]? (β ++ β1)[o]?:=by
 rcases Zk o m.length with h | h
 ·rw [Ze h,Ze (by omega)]
  exact obLe_refl _ _
 ·rw [Zu (by omega : m.length ≤ o)]
  unfold obLe
  split <;> simp_all
section
variable {w w' : World} {Zo : Nat → Prop} {m : List Ob} {β : List Lc}
theorem Mem.holes (M : Mem w Zo m β) (n : Nat) : Mem w Zo (m ++ Za n .hole) (β ++ Za n ⟨0,0⟩) ∧ (cx w Zo m β).le (cx w Zo (m ++ Za n .hole) (β ++ Za n ⟨0,0⟩)):=by
 have g : ∀ (o : Nat) (ob : Ob) (l : Lc) (b : Nat),(m ++ Za n .hole)[o]? = some ob → (β ++ Za n ⟨0,0⟩)[o]? = some l → ob.blk l = some b → m[o]? = some ob ∧ β[o]? = some l:=by
  intro o ob l b g1 g2 g3
  rcases getElem?_append_holes g1 with g1 | ⟨_,rfl⟩
  ·have h1:=(Zb.1 g1).1
   rw [Ze (by rw [M.len]; exact h1)] at g2
   exact ⟨g1,g2⟩
  ·simp [Ob.blk] at g3
 have hlive : ∀ b,liveAt (m ++ Za n .hole) (β ++ Za n ⟨0,0⟩) b → liveAt m β b:=by
  rintro b ⟨o,ob,l,h1,h2,h3⟩
  obtain ⟨q1,q2⟩:=g o ob l b h1 h2 h3
  exact ⟨o,ob,l,q1,q2,h3⟩
 have hle : (cx w Zo m β).le (cx w Zo (m ++ Za n .hole) (β ++ Za n ⟨0,0⟩)) :=
  ⟨fun b hf=>⟨⟨hf.1,fun hz=>hf.2 (hz.imp id (hlive b))⟩,rfl⟩,fun o _=>obLe_append M.len o⟩
 refine ⟨⟨by simp [M.len],?_,?_,fun b h=>M.out b (hlive b h),M.zlt⟩,hle⟩
 ·intro o ob l h1 h2
  rcases getElem?_append_holes h1 with h1 | ⟨_,rfl⟩
  ·have h3:=(Zb.1 h1).1
   rw [Ze (by rw [M.len]; exact h3)] at h2
   exact (M.ok o ob l h1 h2).mono hle (fun b hb=>rfl)
  ·trivial
 ·intro o o' ob ob' l l' b h1 h2 h3 h4 h5 h6
  obtain ⟨a1,a2⟩:=g _ _ _ _ h1 h3 h5
  obtain ⟨b1,b2⟩:=g _ _ _ _ h2 h4 h6
  exact M.sep _ _ _ _ _ _ b a1 b1 a2 b2 h5 h6
end
theorem getElem?_set_some {α : Type} {l : List α} {i j : Nat} {x y : α} (h : (l.set i x)[j]? = some y) : (j = i ∧ y = x ∧ i < l.length) ∨ (j ≠ i ∧ l[j]? = some y):=by
 rw [List.getElem?_set] at h
 split at h
 ·rename_i e
  subst e
  split at h
  ·rename_i hl; simp at h; exact .inl ⟨rfl,h.symm,hl⟩
  ·cases h
 ·rename_i e; exact .inr ⟨fun q=>e q.symm,h⟩
section
variable {w w' : World} {Zo : Nat → Prop} {m : List Ob} {β : List Lc} {ob ob' : Ob} {l : Lc} {o : Nat}
theorem liveAt_set {b : Nat} (h : liveAt (m.set o ob') β b) : (∃ l,β[o]? = some l ∧ ob'.blk l = some b) ∨ (∃ o1 ob1 l1,o1 ≠ o ∧ m[o1]? = some ob1 ∧ β[o1]? = some l1 ∧ ob1.blk l1 = some b):=by
 obtain ⟨o1,ob1,l1,h1,h2,h3⟩:=h
 rcases getElem?_set_some h1 with ⟨rfl,rfl,_⟩ | ⟨hne,h1⟩
 ·exact .inl ⟨l1,h2,h3⟩
 ·exact .inr ⟨o1,ob1,l1,hne,h1,h2,h3⟩
theorem Mem.turn (M : Mem w Zo m β) (hm : m[o]? = some ob) (hl : β[o]? = some l) (hk : obLe (some ob) (some l) (some ob') (some l))
  (hb : ∀ b,ob'.blk l = some b → ob.blk l = some b) (hs : w'.heap.size = w.heap.size)
  (hw : ∀ b,b < w.heap.size → ob.blk l ≠ some b → w'.heap[b]? = w.heap[b]?)
  (k : (cx w Zo m β).le (cx w' Zo (m.set o ob') β) → (∀ b,ob.blk l = some b → ob'.blk l = none → (cx w' Zo (m.set o ob') β).fz b) → OK (cx w' Zo (m.set o ob') β) l ob') :
  Mem w' Zo (m.set o ob') β ∧ (cx w Zo m β).le (cx w' Zo (m.set o ob') β):=by
 have hlive : ∀ b,liveAt (m.set o ob') β b → liveAt m β b:=by
  intro b h
  rcases liveAt_set h with ⟨l1,h1,h2⟩ | ⟨o1,ob1,l1,_,h1,h2,h3⟩
  ·rw [hl] at h1; cases h1
   exact ⟨o,ob,l,hm,hl,hb b h2⟩
  ·exact ⟨o1,ob1,l1,h1,h2,h3⟩
 have hle : (cx w Zo m β).le (cx w' Zo (m.set o ob') β):=by
  refine ⟨fun b hf=>⟨⟨by show b < w'.heap.size; rw [hs]; exact hf.1,?_⟩,hw b hf.1 ?_⟩,fun o1 _=>?_⟩
  ·rintro (hz | hz)
   ·exact hf.2 (.inl hz)
   ·exact hf.2 (.inr (hlive b hz))
  ·intro he
   exact hf.2 (.inr ⟨o,ob,l,hm,hl,he⟩)
  ·show obLe m[o1]? β[o1]? (m.set o ob')[o1]? β[o1]?
   by_cases h : o1 = o
   ·subst h
    rw [Zi (Zb.1 hm).1,hm,hl]
    exact hk
   ·rw [Zl (fun q=>h q.symm)]
    exact obLe_refl _ _
 refine ⟨⟨by simp [M.len],?_,?_,fun b h=>M.out b (hlive b h),fun b h=>by rw [hs]; exact M.zlt b h⟩,hle⟩
 ·intro o1 ob1 l1 h1 h2
  rcases getElem?_set_some h1 with ⟨rfl,rfl,_⟩ | ⟨hne,h1⟩
  ·rw [hl] at h2; cases h2
   refine k hle (fun b he hn=>⟨?_,?_⟩)
   ·show b < w'.heap.size
    rw [hs]
    exact (blk_lt (M.ok _ _ _ hm hl) he).2
   ·rintro (hz | hz)
    ·exact M.out b ⟨_,ob,l,hm,hl,he⟩ hz
    ·rcases liveAt_set hz with ⟨l1,h3,h4⟩ | ⟨o2,ob2,l2,hne,h3,h4,h5⟩
     ·rw [hl] at h3; cases h3
      rw [hn] at h4; cases h4
     ·exact hne (M.sep _ _ _ _ _ _ b h3 hm h4 hl h5 he)
  ·refine (M.ok o1 ob1 l1 h1 h2).mono hle (fun b he=>hw b (blk_lt (M.ok o1 ob1 l1 h1 h2) he).2 ?_)
   intro he2
   exact hne (M.sep o1 o ob1 ob l1 l b h1 hm h2 hl he he2)
 ·intro o1 o2 ob1 ob2 l1 l2 b h1 h2 h3 h4 h5 h6
  have g : ∀ (p : Nat) (q : Ob) (r : Lc),(m.set o ob')[p]? = some q → β[p]? = some r → q.blk r = some b → ∃ ob3,m[p]? = some ob3 ∧ ob3.blk r = some b:=by
   intro p q r g1 g2 g3
   rcases getElem?_set_some g1 with ⟨e1,e2,_⟩ | ⟨hne1,g1⟩
   ·subst e1
    rw [hl] at g2; cases g2
    exact ⟨ob,hm,hb b (by rw [← e2]; exact g3)⟩
   ·exact ⟨q,g1,g3⟩
  obtain ⟨ob3,a1,a2⟩:=g _ _ _ h1 h3 h5
  obtain ⟨ob4,b1,b2⟩:=g _ _ _ h2 h4 h6
  exact M.sep _ _ _ _ _ _ b a1 b1 h3 h4 a2 b2
theorem Mem.fill (M : Mem w Zo m β) (hm : m[o]? = some .hole) (h : Grow w w') (hn : ∀ b,ob.blk l = some b → w.heap.size ≤ b)
  (k : (cx w Zo m β).le (cx w' Zo (m.set o ob) (β.set o l)) → OK (cx w' Zo (m.set o ob) (β.set o l)) l ob) :
  Mem w' Zo (m.set o ob) (β.set o l) ∧ (cx w Zo m β).le (cx w' Zo (m.set o ob) (β.set o l)):=by
 have hom : o < m.length:=(Zb.1 hm).1
 have hoβ : o < β.length:=by rw [M.len]; exact hom
 have g : ∀ (p : Nat) (q : Ob) (r : Lc) (b : Nat),(m.set o ob)[p]? = some q → (β.set o l)[p]? = some r → q.blk r = some b → (p ≠ o ∧ m[p]? = some q ∧ β[p]? = some r ∧ b < w.heap.size) ∨ (p = o ∧ w.heap.size ≤ b):=by
  intro p q r b g1 g2 g3
  rcases getElem?_set_some g1 with ⟨e1,e2,_⟩ | ⟨hne,g1⟩
  ·refine .inr ⟨e1,?_⟩
   subst e1; subst e2
   rw [Zi hoβ] at g2
   cases g2
   exact hn b g3
  ·rw [Zl (fun q=>hne q.symm)] at g2
   exact .inl ⟨hne,g1,g2,M.live_lt ⟨_,_,_,g1,g2,g3⟩⟩
 have hle : (cx w Zo m β).le (cx w' Zo (m.set o ob) (β.set o l)):=by
  refine ⟨fun b hf=>⟨⟨Zt hf.1 h.size,?_⟩,h.block b hf.1⟩,fun o1 _=>?_⟩
  ·rintro (hz | ⟨p,q,r,h1,h2,h3⟩)
   ·exact hf.2 (.inl hz)
   ·rcases g p q r b h1 h2 h3 with ⟨_,a1,a2,_⟩ | ⟨_,a1⟩
    ·exact hf.2 (.inr ⟨p,q,r,a1,a2,h3⟩)
    ·have:=hf.1
     have h2 : b < w.heap.size:=hf.1
     omega
  ·show obLe m[o1]? β[o1]? (m.set o ob)[o1]? (β.set o l)[o1]?
   by_cases e : o1 = o
   ·subst e
    rw [hm]
    unfold obLe
    split <;> simp_all
   ·rw [Zl (fun q=>e q.symm),Zl (fun q=>e q.symm)]
    exact obLe_refl _ _
 refine ⟨⟨by simp [M.len],?_,?_,?_,fun b hb=>Zt (M.zlt b hb) h.size⟩,hle⟩
 ·intro p q r h1 h2
  by_cases e : p = o
  ·subst e
   rw [Zi hom] at h1
   rw [Zi hoβ] at h2
   cases h1; cases h2
   exact k hle
  ·rw [Zl (fun q=>e q.symm)] at h1
   rw [Zl (fun q=>e q.symm)] at h2
   exact (M.ok p q r h1 h2).mono hle (fun b hb=>h.block b (blk_lt (M.ok p q r h1 h2) hb).2)
 ·intro p p' q q' r r' b h1 h2 h3 h4 h5 h6
  rcases g p q r b h1 h3 h5 with ⟨_,a1,a2,a3⟩ | ⟨a1,a2⟩ <;> rcases g p' q' r' b h2 h4 h6 with ⟨_,b1,b2,b3⟩ | ⟨b1,b2⟩
  ·exact M.sep _ _ _ _ _ _ b a1 b1 a2 b2 h5 h6
  ·omega
  ·omega
  ·omega
 ·rintro b ⟨p,q,r,h1,h2,h3⟩ hz
  rcases g p q r b h1 h2 h3 with ⟨_,a1,a2,_⟩ | ⟨_,a1⟩
  ·exact M.out b ⟨p,q,r,a1,a2,h3⟩ hz
  ·have:=M.zlt b hz
   omega
end
end Go.Pm
end
section
namespace Go.Pm
open Go.RowKit
structure St where
 t : List V
 m : List Ob
 g : List V
 deriving Inhabited
def ofVal1 : Value → V
 | .int k n=>.int k n
 | .bool b=>.bool b
 | .string s=>.str s
 | .slice none 0 0=>.nil
 | .pointer none=>.np
 | _=>.junk
def ofVal : Value → V
 | .agg cs=>.agg (cs.toList.map ofVal1)
 | v=>ofVal1 v
theorem RV_ofVal1 (c : Cx) (v : Value) : RV c (ofVal1 v) v:=by
 unfold ofVal1
 split <;> first | rfl | trivial
theorem RVs_ofVal1 (c : Cx) : ∀ us : List Value,RVs c (us.map ofVal1) us
 | []=>rfl
 | u :: us=>⟨u,us,rfl,RV_ofVal1 c u,RVs_ofVal1 c us⟩
theorem RV_ofVal (c : Cx) (v : Value) : RV c (ofVal v) v:=by
 unfold ofVal
 split
 ·exact ⟨_,rfl,RVs_ofVal1 c _⟩
 ·exact RV_ofVal1 c v
def St.ev (t : List V) : Operand → V
 | .tmp i=>t.getD i .junk
 | .const v=>ofVal v
 | .global _=>.junk
 | .func f=>.fn f [] []
section
variable {c : Cx}
theorem RVs.length : ∀ {xs : List V} {us : List Value},RVs c xs us → us.length = xs.length
 | [],us,h=>by rw [show us = [] from h]; rfl
 | x :: xs,us,⟨u,us',e,_,r⟩=>by rw [e]; simp [RVs.length r]
theorem RVs.get : ∀ {xs : List V} {us : List Value} (i : Nat) {x : V},RVs c xs us → xs[i]? = some x → ∃ u,us[i]? = some u ∧ RV c x u
 | x :: xs,us,0,y,⟨u,us',e,r,_⟩,h=>by
   simp at h; subst h
   exact ⟨u,by rw [e]; rfl,r⟩
 | x :: xs,us,i + 1,y,⟨u,us',e,_,r⟩,h=>by
   simp only [ZJ] at h
   obtain ⟨u',h1,h2⟩:=RVs.get i r h
   exact ⟨u',by rw [e]; simpa using h1,h2⟩
theorem RVs.getD {xs : List V} {us : List Value} (i : Nat) (d : Value) (h : RVs c xs us) : RV c (xs.getD i .junk) (us.getD i d):=by
 rcases Zk i xs.length with hi | hi
 ·obtain ⟨u,h1,h2⟩:=h.get i (Zg hi)
  rw [Zs,Zs,h1,Zg hi]
  exact h2
 ·rw [Zs,Zu hi]
  trivial
theorem RVs.set : ∀ {xs : List V} {us : List Value} (i : Nat) {x : V} {u : Value},RVs c xs us → RV c x u → RVs c (xs.set i x) (us.set i u)
 | [],us,i,x,u,h,_=>by rw [show us = [] from h]; simp [RVs]
 | y :: ys,us,0,x,u,⟨u',us',e,_,r⟩,hx=>⟨u,us',by rw [e]; rfl,hx,r⟩
 | y :: ys,us,i + 1,x,u,⟨u',us',e,h1,r⟩,hx=>⟨u',us'.set i u,by rw [e]; rfl,h1,RVs.set i r hx⟩
theorem RVs.append : ∀ {xs ys : List V} {us vs : List Value},RVs c xs us → RVs c ys vs → RVs c (xs ++ ys) (us ++ vs)
 | [],ys,us,vs,h,k=>by rw [show us = [] from h]; exact k
 | x :: xs,ys,us,vs,⟨u,us',e,h1,r⟩,k=>⟨u,us' ++ vs,by rw [e]; rfl,h1,RVs.append r k⟩
theorem RVs.junk (c : Cx) : ∀ us : List Value,RVs c (Za us.length .junk) us
 | []=>rfl
 | u :: us=>⟨u,us,rfl,trivial,RVs.junk c us⟩
theorem RVs.drop : ∀ {xs : List V} {us : List Value} (i : Nat),RVs c xs us → RVs c (xs.drop i) (us.drop i)
 | xs,us,0,h=>h
 | [],us,i + 1,h=>by rw [show us = [] from h]; simp [RVs]
 | x :: xs,us,i + 1,⟨u,us',e,_,r⟩=>by rw [e]; exact RVs.drop i r
theorem RVs.take : ∀ {xs : List V} {us : List Value} (i : Nat),RVs c xs us → RVs c (xs.take i) (us.take i)
 | xs,us,0,h=>by simp [RVs]
 | [],us,i + 1,h=>by rw [show us = [] from h]; simp [RVs]
 | x :: xs,us,i + 1,⟨u,us',e,h1,r⟩=>by rw [e]; exact ⟨u,us'.take i,rfl,h1,RVs.take i r⟩
end
theorem ev_RV {c : Cx} {t : List V} {a : Act} (h : RVs c t a.tmps.toList) (x : Operand) : RV c (St.ev t x) (a.eval x):=by
 cases x with
 | tmp i =>
  have h1:=h.getD i undef
  have h2 : a.tmps.toList.getD i undef = a.tmps.getD i undef:=by simp
  rw [h2] at h1
  exact h1
 | const v=>exact RV_ofVal c v
 | global g=>trivial
 | func f=>exact ⟨#[],#[],rfl,rfl,rfl⟩
def putT (t : List V) (dst : Option Tmp) (x : V) : List V:=match dst with
 | some d=>t.set d x
 | none=>t
theorem RVs.put {c : Cx} {t : List V} {a : Act} {x : V} {u : Value} (h : RVs c t a.tmps.toList) (hx : RV c x u) (dst : Option Tmp) : RVs c (putT t dst x) (a.put dst u).tmps.toList:=by
 cases dst with
 | none=>exact h
 | some d =>
  have:=h.set d hx
  simpa [putT,Act.put,Array.toList_setIfInBounds] using this
def Rel (w0 : World) (E Zo : Nat → Prop) (gh : List Value) (st : St) (a : Act) (w : World) : Prop :=
 ∃ β,Mem w Zo st.m β ∧ (∀ b,liveAt st.m β b → E b ∨ w0.heap.size ≤ b) ∧ Frame E w0 w ∧ a.defers = [] ∧ RVs (cx w Zo st.m β) st.t a.tmps.toList ∧ RVs (cx w Zo st.m β) st.g gh
def SW (P : Program) (code : Code) (st : St) (Q : Exit → St → Prop) : Prop :=
 ∀ w0 E Zo gh a w,Rel w0 E Zo gh st a w → code.wp P (fun e a' w'=>∃ st',Q e st' ∧ Rel w0 E Zo gh st' a' w') a w
def andThen (K : St → Prop) (Q : Exit → St → Prop) : Exit → St → Prop
 | .normal,st=>K st
 | e,st=>Q e st
section
variable {P : Program} {st : St} {Q : Exit → St → Prop}
theorem SW.mono {c : Code} {Q' : Exit → St → Prop} (h : SW P c st Q) (hq : ∀ e st,Q e st → Q' e st) : SW P c st Q' :=
 fun w0 E Zo gh a w r=>wp_mono (h w0 E Zo gh a w r) fun e a w ⟨st',q,r'⟩=>⟨st',hq _ _ q,r'⟩
theorem SW.skip (h : Q .normal st) : SW P .skip st Q:=fun w0 E Zo gh a w r=>wp_skip ⟨st,h,r⟩
theorem SW.ret (h : Q .ret st) : SW P .ret st Q:=fun w0 E Zo gh a w r=>wp_ret ⟨st,h,r⟩
theorem SW.exit {id : Nat} (h : Q (.exit id) st) : SW P (.exit id) st Q:=fun w0 E Zo gh a w r=>wp_exit ⟨st,h,r⟩
theorem SW.seq {x y : Code} (h : SW P x st (andThen (fun st'=>SW P y st' Q) Q)) : SW P (.seq x y) st Q:=by
 intro w0 E Zo gh a w r
 refine wp_seq (wp_mono (h w0 E Zo gh a w r) ?_)
 rintro e a' w' ⟨st',q,r'⟩
 cases e with
 | normal=>exact q w0 E Zo gh a' w' r'
 | exit id=>exact ⟨st',q,r'⟩
 | goto l=>exact ⟨st',q,r'⟩
 | ret=>exact ⟨st',q,r'⟩
 | panic ch=>exact ⟨st',q,r'⟩
 | outgrown=>exact ⟨st',q,r'⟩
theorem SW.cond {c : Operand} {x y : Code} {b : Bool} (hc : St.ev st.t c = .bool b) (ht : b = true → SW P x st Q) (hf : b = false → SW P y st Q) : SW P (.cond c x y) st Q:=by
 intro w0 E Zo gh a w r
 obtain ⟨β,M,h1,h2,h3,h4,h5⟩:=r
 have hv:=ev_RV h4 c
 rw [hc] at hv
 exact wp_cond_split hv (fun e=>ht e w0 E Zo gh a w ⟨β,M,h1,h2,h3,h4,h5⟩) (fun e=>hf e w0 E Zo gh a w ⟨β,M,h1,h2,h3,h4,h5⟩)
def inBlk (id : Nat) (Q : Exit → St → Prop) : Exit → St → Prop
 | .exit id',st=>if id' = id then Q .normal st else Q (.exit id') st
 | e,st=>Q e st
theorem SW.block {id : Nat} {c : Code} (h : SW P c st (inBlk id Q)) : SW P (.block id c) st Q:=by
 intro w0 E Zo gh a w r
 refine wp_block (wp_mono (h w0 E Zo gh a w r) ?_)
 rintro e a' w' ⟨st',q,r'⟩
 cases e with
 | exit id' =>
  unfold Exit.inBlock
  unfold inBlk at q
  by_cases hid : id' = id
  ·simp only [hid,if_true] at q ⊢; exact ⟨st',q,r'⟩
  ·simp only [hid,if_false] at q ⊢; exact ⟨st',q,r'⟩
 | normal=>exact ⟨st',q,r'⟩
 | goto l=>exact ⟨st',q,r'⟩
 | ret=>exact ⟨st',q,r'⟩
 | panic ch=>exact ⟨st',q,r'⟩
 | outgrown=>exact ⟨st',q,r'⟩
theorem SW.loop {c : Code} (I : Nat → St → Prop) (n : Nat) (h0 : I n st) (round : ∀ n st,I n st → SW P c st (andThen (fun st'=>∃ n',n' < n ∧ I n' st') Q)) : SW P (.loop c) st Q:=by
 intro w0 E Zo gh a w r
 refine wp_loop_ghost (fun n a w=>∃ st,I n st ∧ Rel w0 E Zo gh st a w) n ⟨st,h0,r⟩ ?_
 rintro n a w ⟨st,hI,r⟩
 refine wp_mono (round n st hI w0 E Zo gh a w r) ?_
 rintro e a' w' ⟨st',q,r'⟩
 cases e with
 | normal =>
  obtain ⟨n',hlt,hI'⟩:=q
  exact ⟨n',hlt,st',hI',r'⟩
 | exit id=>exact ⟨st',q,r'⟩
 | goto l=>exact ⟨st',q,r'⟩
 | ret=>exact ⟨st',q,r'⟩
 | panic ch=>exact ⟨st',q,r'⟩
 | outgrown=>exact ⟨st',q,r'⟩
end
def OW (P : Program) (o : Oper) (st : St) (K : St → Prop) : Prop :=
 ∀ w0 E Zo gh a w (Q : Exit → Act → World → Prop),Rel w0 E Zo gh st a w → o.wp P a w (fun a' w'=>∃ st',K st' ∧ Rel w0 E Zo gh st' a' w') Q
def gd (ds : List (Option Tmp)) (o : Oper) (t : List V) (A B : Prop) : Prop:=match o.guard with
 | none=>A
 | some (j,want)=>match ds.getD j none with
   | some d=>match t.getD d .junk with
     | .bool b=>(b = want → A) ∧ (b = (!want) → B)
     | .tup []=>B
     | _=>False
   | none=>False
theorem RV_udf {c : Cx} : RV c (.tup []) undef:=⟨#[],rfl,rfl⟩
theorem udf_cases {c : Cx} {a : Act} {d : Nat} (h : RV c (.tup []) (a.tmps.getD d undef)) : a.tmps[d]? = none ∨ a.tmps[d]? = some (.tuple #[]):=by
 obtain ⟨us,e,h⟩:=h
 have h : us.toList = []:=h
 have h : us = #[]:=by cases us; simp_all
 subst h
 rw [Yb] at e
 cases h4 : a.tmps[d]? with
 | none=>exact .inl rfl
 | some v =>
  rw [h4] at e
  exact .inr (by simpa using e)
def dsts (ops : Array Oper) : List (Option Tmp):=ops.toList.map (·.dst)
theorem gd_wanted {ops : Array Oper} {c : Cx} {o : Oper} {t : List V} {a : Act} (h : RVs c t a.tmps.toList) {A B : Prop} (k : gd (dsts ops) o t A B) :
  (Region.wanted o (yielded ops a.tmps) = true ∧ A) ∨ (Region.wanted o (yielded ops a.tmps) = false ∧ B):=by
 unfold gd at k
 unfold Region.wanted
 cases hg : o.guard with
 | none=>rw [hg] at k; exact .inl ⟨rfl,k⟩
 | some g =>
  obtain ⟨j,want⟩:=g
  rw [hg] at k
  simp only at k ⊢
  have hd : (dsts ops).getD j none = (ops[j]?).bind (·.dst):=by
   unfold dsts
   rw [Zs,Zz,Yc]
   cases ops[j]? <;> rfl
  rw [hd] at k
  unfold yielded
  cases hj : (ops[j]?).bind (·.dst) with
  | none=>rw [hj] at k; exact k.elim
  | some d =>
   rw [hj] at k
   simp only at k
   have hv:=h.getD d undef
   have h2 : a.tmps.toList.getD d undef = a.tmps.getD d undef:=by simp
   rw [h2] at hv
   cases hx : t.getD d .junk <;> rw [hx] at k hv <;> try simp only at k
   case bool b =>
    have hv' : a.tmps.getD d undef = .bool b:=hv
    have h3 : a.tmps[d]? = some (.bool b):=by
     rw [Yb] at hv'
     cases h4 : a.tmps[d]? with
     | none=>rw [h4] at hv'; cases hv'
     | some v=>rw [h4] at hv'; simpa using hv'
    rw [Option.bind_some,h3]
    cases b <;> cases want <;> simp_all
   case tup xs =>
    cases xs with
    | cons x xs=>exact k.elim
    | nil =>
     refine .inr ⟨?_,k⟩
     rw [Option.bind_some]
     rcases udf_cases hv with e | e <;> rw [e] <;> rfl
def RO (P : Program) (ds : List (Option Tmp)) : List Oper → St → (St → Prop) → Prop
 | [],st,K=>K st
 | o :: os,st,K=>gd ds o st.t (OW P o st (fun st'=>RO P ds os st' K)) (RO P ds os ⟨putT st.t o.dst (.tup []),st.m,st.g⟩ K)
theorem RO_sound {P : Program} {ops : Array Oper} {Q : Exit → Act → World → Prop} {K : St → Prop} {w0 : World} {E Zo : Nat → Prop} {gh : List Value} :
  ∀ (os : List Oper) (n : Nat) (st : St) (a : Act) (w : World),n + os.length = ops.size → ops.toList.drop n = os → (∀ st a w,K st → Rel w0 E Zo gh st a w → Q .normal a w) →
   RO P (dsts ops) os st K → Rel w0 E Zo gh st a w → wpOps P ops Q ((ZR os.length).map (n + ·)) a w
 | [],n,st,a,w,_,_,hK,h,r=>hK _ _ _ h r
 | o :: os,n,st,a,w,hn,hd,hK,h,r=>by
   have hrange : (ZR (o :: os).length).map (n + ·) = n :: (ZR os.length).map ((n + 1) + ·):=by
    simp only [ZC,List.range_succ_eq_map,ZS,List.map_map,Zy]
    congr 1
    apply Yd
    intro x _
    simp only [Function.comp]
    omega
   have hoi : ops[n]? = some o:=by
    have : ops.toList[n]? = some o:=by
     have h1 : (ops.toList.drop n)[0]? = some o:=by rw [hd]; rfl
     simpa using h1
    simpa using this
   have hd' : ops.toList.drop (n + 1) = os:=by
    have : (ops.toList.drop n).drop 1 = os:=by rw [hd]; rfl
    simpa [List.drop_drop,Zn] using this
   have hn' : n + 1 + os.length = ops.size:=by simp at hn; omega
   rw [hrange]
   simp only [wpOps,hoi]
   have r':=r
   obtain ⟨β,M,h1,h2,h3,h4,h5⟩:=r
   rcases gd_wanted h4 h with ⟨hw,hA⟩ | ⟨hw,hB⟩
   ·rw [if_pos hw]
    refine .inl (Oper.wp_mono ?_ (hA w0 E Zo gh a w Q r'))
    rintro a' w' ⟨st',hk,hr⟩
    exact RO_sound os (n + 1) st' a' w' hn' hd' hK hk hr
   ·rw [if_neg (by rw [hw]; decide)]
    refine RO_sound os (n + 1) _ _ w hn' hd' hK hB ⟨β,M,h1,h2,by cases o.dst <;> exact h3,h4.put (x:=.tup []) RV_udf o.dst,h5⟩
theorem SW.region {P : Program} {st : St} {Q : Exit → St → Prop} {id : Nat} {ops : Array Oper} (h : RO P (dsts ops) ops.toList st (Q .normal)) : SW P (.region id ops false) st Q:=by
 intro w0 E Zo gh a w r
 have h1:=RO_sound (Q:=fun e a' w'=>∃ st',Q e st' ∧ Rel w0 E Zo gh st' a' w') (ops:=ops) ops.toList 0 st a w (by simp) rfl (fun st a w hk hr=>⟨st,hk,hr⟩) h r
 refine wp_region ?_
 simpa using h1
end Go.Pm
end
section
namespace Go.Pm
open Go.RowKit
def Agree (mT m : List Ob) : Prop:=∀ (p : Nat) (ob : Ob),mT[p]? = some ob → m[p]? = some ob ∨ m[p]? = some .hole
theorem Agree.refl (m : List Ob) : Agree m m:=fun _ _ h=>.inl h
def fills : List Ob → Nat → List Ob → List Ob
 | m,_,[]=>m
 | m,p,x :: xs=>fills (m.set p x) (p + 1) xs
theorem fills_length : ∀ (xs m : List Ob) (p : Nat),(fills m p xs).length = m.length
 | [],m,p=>rfl
 | x :: xs,m,p=>by simp [fills,fills_length xs]
theorem fills_holes : ∀ (xs m : List Ob),fills (m ++ Za xs.length .hole) m.length xs = m ++ xs
 | [],m=>by simp [fills]
 | x :: xs,m=>by
   simp only [fills,ZC,ZT]
   have h1 : (m ++ Ob.hole :: Za xs.length .hole).set m.length x = (m ++ [x]) ++ Za xs.length .hole:=by
    rw [ZD _ _ (Zd _)]
    simp
   rw [h1]
   have:=fills_holes xs (m ++ [x])
   simp only [ZK,List.length_singleton] at this
   rw [this]
   simp
def QS (P : Program) (o : Oper) (ev : Operand → V) (mT : List Ob) (base : Nat) (r : V) (new : List Ob) : Prop :=
 ∀ (w : World) (Zo : Nat → Prop) (m : List Ob) (β : List Lc) (a : Act) (Q : Exit → Act → World → Prop),Mem w Zo m β → Agree mT m → (∀ x ∈ o.op.operands,RV (cx w Zo m β) (ev x) (a.eval x)) →
  (∀ j,j < new.length → m[base + j]? = some .hole) →
  o.wp P a w (fun a' w'=>∃ v β',a' = a.put o.dst v ∧ Grow w w' ∧ Mem w' Zo (fills m base new) β' ∧ (cx w Zo m β).le (cx w' Zo (fills m base new) β') ∧ RV (cx w' Zo (fills m base new) β') r v ∧
   (∀ b,liveAt (fills m base new) β' b → liveAt m β b ∨ w.heap.size ≤ b)) Q
theorem Cx.le.trans {a b c : Cx} (h : a.le b) (k : b.le c) : a.le c:=by
 refine ⟨fun i hi=>⟨(k.fz i (h.fz i hi).1).1,(k.fz i (h.fz i hi).1).2.trans (h.fz i hi).2⟩,fun o ho=>?_⟩
 have h1:=h.ob o trivial
 have h2:=k.ob o trivial
 generalize a.m[o]? = am at *
 generalize a.β[o]? = ab at *
 generalize b.m[o]? = bm at *
 generalize b.β[o]? = bb at *
 generalize c.m[o]? = cm at *
 generalize c.β[o]? = cb at *
 cases am with
 | none=>trivial
 | some x =>
  cases x with
  | hole=>cases ab <;> trivial
  | dead =>
   have h1 : bm = some .dead:=h1
   subst h1
   exact h2
  | box lv cs =>
   cases ab with
   | none=>trivial
   | some l =>
    rcases h1 with rfl | ⟨lv,xs',l',rfl,rfl,e1⟩
    ·exact .inl h2
    ·rcases h2 with rfl | ⟨lv2,xs2,l2,rfl,rfl,e2⟩
     ·exact .inl rfl
     ·exact .inr ⟨_,_,_,rfl,rfl,e2.trans e1⟩
  | arr lv sz xs =>
   cases ab with
   | none=>trivial
   | some l =>
    rcases h1 with rfl | ⟨lv,xs',rfl,rfl,h1⟩
    ·exact .inl h2
    ·rcases h2 with rfl | ⟨lv2,xs2,rfl,rfl,h2⟩
     ·exact .inl rfl
     ·exact .inr ⟨_,_,rfl,rfl,by omega⟩
  | mp lv ks vs =>
   cases ab with
   | none=>trivial
   | some l =>
    rcases h1 with rfl | ⟨lv,ks,vs,l',rfl,rfl,e1⟩
    ·exact .inl h2
    ·rcases h2 with rfl | ⟨lv2,ks2,vs2,l2,rfl,rfl,e2⟩
     ·exact .inl rfl
     ·exact .inr ⟨_,_,_,_,rfl,rfl,e2.trans e1⟩
section
variable {P : Program} {o : Oper} {ev : Operand → V} {mT : List Ob} {base : Nat} {r : V} {new : List Ob}
theorem wp_value {a : Act} {w w' : World} {v : Value} {K : Act → World → Prop} {Q : Exit → Act → World → Prop} (hr : (execOp a.eval o).run P w = .ok (.value v) w') (h : K (a.put o.dst v) w') : o.wp P a w K Q:=by
 unfold Oper.wp
 rw [hr]
 exact h
theorem QS.value (h : ∀ (w : World) (Zo : Nat → Prop) (m : List Ob) (β : List Lc) (a : Act),Mem w Zo m β → Agree mT m → (∀ x ∈ o.op.operands,RV (cx w Zo m β) (ev x) (a.eval x)) →
  ∃ v,(execOp a.eval o).run P w = .ok (.value v) w ∧ RV (cx w Zo m β) r v) : QS P o ev mT base r []:=by
 intro w Zo m β a Q M A hx _
 obtain ⟨v,h1,h2⟩:=h w Zo m β a M A hx
 exact wp_value h1 ⟨v,β,rfl,Grow.refl w,M,Cx.le.refl _,h2,fun b hb=>.inl hb⟩
theorem QS.new1 {ob : Ob} (h : ∀ (w : World) (Zo : Nat → Prop) (m : List Ob) (β : List Lc) (a : Act),Mem w Zo m β → Agree mT m → (∀ x ∈ o.op.operands,RV (cx w Zo m β) (ev x) (a.eval x)) →
  ∃ v w' l,(execOp a.eval o).run P w = .ok (.value v) w' ∧ Grow w w' ∧ (∀ b,ob.blk l = some b → w.heap.size ≤ b) ∧
   (∀ c',(cx w Zo m β).le c' → c'.w = w' → c'.m = m.set base ob → c'.β[base]? = some l → c'.m[base]? = some ob → OK c' l ob ∧ RV c' r v)) : QS P o ev mT base r [ob]:=by
 intro w Zo m β a Q M A hx hh
 obtain ⟨v,w',l,h1,h2,h3,h4⟩:=h w Zo m β a M A hx
 have hm : m[base]? = some .hole:=hh 0 (by simp)
 have hb1 : base < m.length:=(Zb.1 hm).1
 have hb2 : base < β.length:=by rw [M.len]; exact hb1
 have g : ∀ hle : (cx w Zo m β).le (cx w' Zo (m.set base ob) (β.set base l)),OK (cx w' Zo (m.set base ob) (β.set base l)) l ob ∧ RV (cx w' Zo (m.set base ob) (β.set base l)) r v :=
  fun hle=>h4 _ hle rfl rfl (Zi hb2) (Zi hb1)
 obtain ⟨M',hle⟩:=M.fill (ob:=ob) (l:=l) hm h2 h3 (fun hle=>(g hle).1)
 refine wp_value h1 ⟨v,β.set base l,rfl,h2,M',hle,(g hle).2,?_⟩
 rintro b ⟨p,q,r',g1,g2,g3⟩
 rcases getElem?_set_some g1 with ⟨e1,e2,_⟩ | ⟨hne,g1⟩
 ·subst e1; subst e2
  rw [Zi hb2] at g2
  cases g2
  exact .inr (h3 b g3)
 ·rw [Zl (fun q=>hne q.symm)] at g2
  exact .inl ⟨p,q,r',g1,g2,g3⟩
theorem OW_of_QS {st : St} {K : St → Prop} (h : QS P o (St.ev st.t) st.m st.m.length r new) (k : K ⟨putT st.t o.dst r,st.m ++ new,st.g⟩) : OW P o st K:=by
 intro w0 E Zo gh a w Q ⟨β,M,hE,hF,hd,ht,hgh⟩
 obtain ⟨M1,hle1⟩:=M.holes new.length
 have hlive1 : ∀ b,liveAt (st.m ++ Za new.length .hole) (β ++ Za new.length ⟨0,0⟩) b → liveAt st.m β b:=by
  rintro b ⟨p,q,l,h1,h2,h3⟩
  rcases getElem?_append_holes h1 with h1 | ⟨_,rfl⟩
  ·rw [Ze (by rw [M.len]; exact (Zb.1 h1).1)] at h2
   exact ⟨p,q,l,h1,h2,h3⟩
  ·simp [Ob.blk] at h3
 have hA : Agree st.m (st.m ++ Za new.length .hole):=fun p ob hp=>.inl (getElem?_append_old hp _)
 refine Oper.wp_mono ?_ (h w Zo _ _ a Q M1 hA (fun x _=>(ev_RV ht x).mono hle1) (fun j hj=>?_))
 ·rintro a' w' ⟨v,β',rfl,hG,M',hle,hv,hl⟩
  rw [fills_holes] at M' hle hv hl
  refine ⟨_,k,β',M',?_,hF.trans (hG.mono (fun _ q=>q.elim)),by cases o.dst <;> exact hd,(ht.mono (hle1.trans hle)).put hv o.dst,hgh.mono (hle1.trans hle)⟩
  intro b hb
  rcases hl b hb with hb | hb
  ·exact hE b (hlive1 b hb)
  ·exact .inr (ZQ hF.size hb)
 ·rw [Zh (by omega)]
  simp [hj]
end
end Go.Pm
end
section
namespace Go.Pm
open Go.RowKit
def isAggD : TypeDesc → Bool
 | .struct _=>true
 | .array _ _=>true
 | _=>false
def lay (P : Program) (t : TypeId) : Option (Nat × Bool):=match P.info? t,P.underlying t with
 | some i,some d=>some (i.size,isAggD d)
 | _,_=>none
def fld (P : Program) (s f : Nat) : Option (Nat × Nat × Bool):=match P.underlying s with
 | some (.struct fs)=>match fs[f]? with
   | some fd=>match lay P fd.type with
     | some (n,b)=>some (fd.offset,n,b)
     | none=>none
   | none=>none
 | _=>none
def zer (P : Program) (t : TypeId) : Option (List V):=match P.info? t with
 | some i=>match i.zero with
   | some z=>some (z.cells.toList.map ofVal1)
   | none=>none
 | none=>none
def elt (P : Program) (t : TypeId) : Option TypeId:=match P.underlying t with
 | some (.slice e)=>some e
 | _=>none
section
variable {P : Program} {w : World} {t : TypeId}
theorem lay_info {n : Nat} {b : Bool} (h : lay P t = some (n,b)) : ∃ i d,P.info? t = some i ∧ P.underlying t = some d ∧ i.size = n ∧ isAggD d = b:=by
 unfold lay at h
 split at h
 ·rename_i i d h1 h2
  simp only [Option.some.injEq,Prod.mk.injEq] at h
  exact ⟨i,d,h1,h2,h.1,h.2⟩
 ·cases h
theorem run_sz {n : Nat} {b : Bool} (h : lay P t = some (n,b)) : (sizeOf t).run P w = .ok n w:=by
 obtain ⟨i,d,h1,h2,h3,h4⟩:=lay_info h
 unfold sizeOf typeInfo
 simp [h1,h3]
theorem run_und {d : TypeDesc} (h : P.underlying t = some d) : (underlying t).run P w = .ok d w:=by
 unfold underlying
 simp [h]
theorem run_ag {n : Nat} {b : Bool} (h : lay P t = some (n,b)) : (isAgg t).run P w = .ok b w:=by
 obtain ⟨i,d,h1,h2,h3,h4⟩:=lay_info h
 unfold isAgg
 simp only [Sem.run_bind,run_und h2,Result.andThen_ok]
 subst h4
 cases d <;> simp [isAggD]
end
theorem add_plain (b o n : Nat) : (⟨b,o,none⟩ : Addr).add n = ⟨b,o + n,none⟩:=by
 unfold Addr.add
 split
 ·rename_i h; subst h; rfl
 ·rfl
section
variable {c : Cx}
theorem RC.get {b : Nat} : ∀ {cs : List V} {o : Nat} (i : Nat) {x : V},RC c b o cs → cs[i]? = some x → ∃ u,c.w.cell? ⟨b,o + i,none⟩ = some u ∧ RV c x u
 | y :: ys,o,0,x,⟨h,_⟩,e=>by
   simp at e; subst e
   exact h
 | y :: ys,o,i + 1,x,⟨_,h⟩,e=>by
   have:=RC.get i h (by simpa using e)
   rwa [Zp,Zn 1 i] at this
theorem RC.list {b : Nat} : ∀ {cs : List V} {o : Nat},RC c b o cs → ∃ us : List Value,RVs c cs us ∧ us.length = cs.length ∧ ∀ j u,us[j]? = some u → c.w.cell? ⟨b,o + j,none⟩ = some u
 | [],o,_=>⟨[],rfl,rfl,fun j u h=>by simp at h⟩
 | y :: ys,o,⟨⟨u,h1,h2⟩,h⟩=>by
   obtain ⟨us,k1,k2,k3⟩:=RC.list h
   refine ⟨u :: us,⟨u,us,rfl,h2,k1⟩,by simp [k2],fun j v hj=>?_⟩
   cases j with
   | zero=>simp at hj; subst hj; exact h1
   | succ j =>
    have:=k3 j v (by simpa using hj)
    rwa [Zp,Zn 1 j] at this
theorem RC.drop {b : Nat} : ∀ {cs : List V} {o : Nat} (i : Nat),RC c b o cs → RC c b (o + i) (cs.drop i)
 | cs,o,0,h=>h
 | [],o,i + 1,h=>by simp [RC]
 | y :: ys,o,i + 1,⟨_,h⟩=>by
   have:=RC.drop i h
   rwa [Zp,Zn 1 i] at this
theorem RC.take {b : Nat} : ∀ {cs : List V} {o : Nat} (i : Nat),RC c b o cs → RC c b o (cs.take i)
 | cs,o,0,h=>by simp [RC]
 | [],o,i + 1,h=>by simp [RC]
 | y :: ys,o,i + 1,⟨h1,h⟩=>⟨h1,RC.take i h⟩
theorem RC.of {b : Nat} : ∀ {cs : List V} {us : List Value} {o : Nat},RVs c cs us → (∀ j u,us[j]? = some u → c.w.cell? ⟨b,o + j,none⟩ = some u) → RC c b o cs
 | [],us,o,_,_=>trivial
 | y :: ys,us,o,⟨u,us',e,h1,h2⟩,h=>by
   subst e
   refine ⟨⟨u,h 0 u rfl,h1⟩,RC.of h2 fun j v hj=>?_⟩
   have:=h (j + 1) v (by simpa using hj)
   rwa [Zp,Zn 1 j]
theorem RR.get {sz b : Nat} : ∀ {xs : List (List V)} {o : Nat} (i : Nat) {x : List V},RR c sz b o xs → xs[i]? = some x → x.length = sz ∧ RC c b (o + i * sz) x
 | y :: ys,o,0,x,⟨h1,h2,_⟩,e=>by
   simp at e; subst e
   exact ⟨h1,by simpa using h2⟩
 | y :: ys,o,i + 1,x,⟨_,_,h⟩,e=>by
   have:=RR.get i h (by simpa using e)
   rw [Zf,Zm]
   rwa [Zp,Zn sz] at this
theorem RR.drop {sz b : Nat} : ∀ {xs : List (List V)} {o : Nat} (i : Nat),RR c sz b o xs → RR c sz b (o + i * sz) (xs.drop i)
 | xs,o,0,h=>by simpa using h
 | [],o,i + 1,h=>by simp [RR]
 | y :: ys,o,i + 1,⟨_,_,h⟩=>by
   have:=RR.drop i h
   rw [Zf,Zm]
   rwa [Zp,Zn sz] at this
theorem RR.take {sz b : Nat} : ∀ {xs : List (List V)} {o : Nat} (i : Nat),RR c sz b o xs → RR c sz b o (xs.take i)
 | xs,o,0,h=>by simp [RR]
 | [],o,i + 1,h=>by simp [RR]
 | y :: ys,o,i + 1,⟨h1,h2,h⟩=>⟨h1,h2,RR.take i h⟩
theorem RR.of {sz b : Nat} : ∀ {xs : List (List V)} {us : List Value} {o : Nat},(∀ x ∈ xs,x.length = sz) → RVs c xs.flatten us → (∀ j u,us[j]? = some u → c.w.cell? ⟨b,o + j,none⟩ = some u) → RR c sz b o xs
 | [],us,o,_,_,_=>trivial
 | x :: xs,us,o,hl,hr,h=>by
   have hx:=hl x Zq
   rw [ZL] at hr
   have h1 : RVs c x (us.take sz):=by
    have:=hr.take sz
    rwa [Ye (by omega),← hx,List.take_length,hx] at this
   have h2 : RVs c xs.flatten (us.drop sz):=by
    have:=hr.drop sz
    rwa [← hx,List.drop_left,hx] at this
   refine ⟨hx,RC.of h1 fun j u hj=>h j u ?_,RR.of (fun y hy=>hl y (Zr _ hy)) h2 fun j u hj=>?_⟩
   ·rw [ZA] at hj
    split at hj
    ·exact hj
    ·cases hj
   ·have:=h (sz + j) u (by simpa using hj)
    rwa [Zp]
theorem RR.list {sz b : Nat} : ∀ {xs : List (List V)} {o : Nat},RR c sz b o xs → ∃ us : List Value,RVs c xs.flatten us ∧ us.length = xs.length * sz ∧ ∀ j u,us[j]? = some u → c.w.cell? ⟨b,o + j,none⟩ = some u
 | [],o,_=>⟨[],rfl,by simp,fun j u h=>by simp at h⟩
 | x :: xs,o,⟨h1,h2,h3⟩=>by
   obtain ⟨us,k1,k2,k3⟩:=h2.list
   obtain ⟨vs,g1,g2,g3⟩:=RR.list h3
   refine ⟨us ++ vs,k1.append g1,by simp [k2,g2,h1,Zf]; omega,fun j u hj=>?_⟩
   rcases Zk j us.length with hlt | hge
   ·rw [Ze hlt] at hj
    exact k3 j u hj
   ·rw [Zh hge] at hj
    have:=g3 _ u hj
    rw [k2,h1] at this hge
    rwa [show o + sz + (j - sz) = o + j by omega] at this
theorem RR.length {sz b : Nat} : ∀ {xs : List (List V)} {o : Nat},RR c sz b o xs → ∀ x ∈ xs,x.length = sz
 | y :: ys,o,⟨h1,_,h⟩,x,hx=>by
   rcases ZB.1 hx with rfl | hx
   ·exact h1
   ·exact RR.length h x hx
end
section
variable {P : Program} {w : World} {Zo : Nat → Prop} {mT m : List Ob} {β : List Lc}
theorem at_ptr (M : Mem w Zo m β) (A : Agree mT m) {o off : Nat} {v : Value} {ob : Ob} (hT : mT[o]? = some ob) (h : RV (cx w Zo m β) (.ptr o off) v) (hd : ob ≠ .dead) :
  m[o]? = some ob ∧ ∃ l,β[o]? = some l ∧ OK (cx w Zo m β) l ob ∧ v = .pointer (some ⟨l.b,off,none⟩):=by
 rcases A o ob hT with hm | hm
 ·obtain ⟨l,h1,h2⟩:=M.at_ hm
  unfold RV at h
  rw [show (cx w Zo m β).m = m from rfl,show (cx w Zo m β).β = β from rfl,hm,h1] at h
  cases ob <;> first | exact h.elim | exact absurd rfl hd | exact ⟨hm,l,h1,h2,h⟩
 ·unfold RV at h
  rw [show (cx w Zo m β).m = m from rfl,show (cx w Zo m β).β = β from rfl,hm] at h
  exact (by revert h; cases β[o]? <;> exact False.elim)
theorem at_eptr (M : Mem w Zo m β) (A : Agree mT m) {o i off sz : Nat} {v : Value} {lv : Bool} {xs : List (List V)} (hT : mT[o]? = some (.arr lv sz xs)) (h : RV (cx w Zo m β) (.eptr o i off) v) :
  m[o]? = some (.arr lv sz xs) ∧ ∃ l,β[o]? = some l ∧ OK (cx w Zo m β) l (.arr lv sz xs) ∧ v = .pointer (some ⟨l.b,i * sz + off,none⟩):=by
 rcases A o _ hT with hm | hm
 ·obtain ⟨l,h1,h2⟩:=M.at_ hm
  unfold RV at h
  rw [show (cx w Zo m β).m = m from rfl,show (cx w Zo m β).β = β from rfl,hm,h1] at h
  exact ⟨hm,l,h1,h2,h⟩
 ·unfold RV at h
  rw [show (cx w Zo m β).m = m from rfl,show (cx w Zo m β).β = β from rfl,hm] at h
  exact (by revert h; cases β[o]? <;> exact False.elim)
theorem RV_arc {c : Cx} {o off len cap : Nat} {v : Value} (h : RV c (.arc o off len cap) v) : RV c (.ar o off len) v:=by
 unfold RV at h ⊢
 revert h
 cases c.m[o]? with
 | none=>exact fun h=>h.elim
 | some ob =>
  cases c.β[o]? with
  | none=>cases ob <;> first | exact fun h=>h.elim | exact fun h=>trivial
  | some l =>
   cases ob <;> first | exact fun h=>h.elim | exact fun h=>trivial | skip
   rintro ⟨h0,h1,A,e,hA⟩
   have : l.cap - off = cap:=by omega
   exact ⟨h1,A,by rw [this]; exact e,fun hl=>hA (by omega)⟩
theorem RV_arc_cap {c : Cx} {o off len cap sz : Nat} {lv : Bool} {xs : List (List V)} {l : Lc} {v : Value} (h : RV c (.arc o off len cap) v) (hm : c.m[o]? = some (.arr lv sz xs)) (hl : c.β[o]? = some l) : l.cap = off + cap:=by
 unfold RV at h
 rw [hm,hl] at h
 exact h.1
theorem at_ar (M : Mem w Zo m β) (A : Agree mT m) {o off len sz : Nat} {v : Value} {lv : Bool} {xs : List (List V)} (hT : mT[o]? = some (.arr lv sz xs)) (h : RV (cx w Zo m β) (.ar o off len) v) :
  m[o]? = some (.arr lv sz xs) ∧ ∃ l,β[o]? = some l ∧ OK (cx w Zo m β) l (.arr lv sz xs) ∧ off + len ≤ xs.length ∧ ∃ A,v = .slice A len (l.cap - off) ∧ (off < l.cap → A = some ⟨l.b,off * sz,none⟩):=by
 rcases A o _ hT with hm | hm
 ·obtain ⟨l,h1,h2⟩:=M.at_ hm
  unfold RV at h
  rw [show (cx w Zo m β).m = m from rfl,show (cx w Zo m β).β = β from rfl,hm,h1] at h
  exact ⟨hm,l,h1,h2,h⟩
 ·unfold RV at h
  rw [show (cx w Zo m β).m = m from rfl,show (cx w Zo m β).β = β from rfl,hm] at h
  exact (by revert h; cases β[o]? <;> exact False.elim)
theorem at_map (M : Mem w Zo m β) (A : Agree mT m) {o : Nat} {v : Value} {lv : Bool} {ks vs : List V} (hT : mT[o]? = some (.mp lv ks vs)) (h : RV (cx w Zo m β) (.map o) v) :
  m[o]? = some (.mp lv ks vs) ∧ ∃ l,β[o]? = some l ∧ OK (cx w Zo m β) l (.mp lv ks vs) ∧ v = .map (some l.b):=by
 rcases A o _ hT with hm | hm
 ·obtain ⟨l,h1,h2⟩:=M.at_ hm
  unfold RV at h
  rw [show (cx w Zo m β).m = m from rfl,show (cx w Zo m β).β = β from rfl,hm,h1] at h
  exact ⟨hm,l,h1,h2,h⟩
 ·unfold RV at h
  rw [show (cx w Zo m β).m = m from rfl,show (cx w Zo m β).β = β from rfl,hm] at h
  exact (by revert h; cases β[o]? <;> exact False.elim)
theorem run_loadVar {c : Cx} {t : TypeId} {b o : Nat} {cs : List V} {sz : Nat} {ag : Bool} (hl : lay P t = some (sz,ag)) (h : RC c b o cs) (hs : ag = true → sz ≤ cs.length) (h1 : ag = false → 0 < cs.length) :
  ∃ v,(Go.loadVar t ⟨b,o,none⟩).run P c.w = .ok v c.w ∧ RV c (if ag then .agg (cs.take sz) else cs.getD 0 .junk) v:=by
 unfold Go.loadVar
 simp only [Sem.run_bind,run_ag hl,Result.andThen_ok]
 cases ag with
 | true =>
  obtain ⟨us,k1,k2,k3⟩:=(h.take sz).list
  have hlen : us.length = sz:=by rw [k2,ZE]; have:=hs rfl; omega
  have:=run_loadCells_list (P:=P) c.w ⟨b,o,none⟩ us (fun j v hj=>by rw [add_plain]; exact k3 j v hj)
  rw [hlen] at this
  refine ⟨.agg us.toArray,?_,⟨_,rfl,k1⟩⟩
  simp [run_sz hl,this]
 | false =>
  have hp:=h1 rfl
  obtain ⟨u,k1,k2⟩:=h.get 0 (Zg hp)
  refine ⟨u,?_,?_⟩
  ·simp only [Zy] at k1
   simp [k1]
  ·rw [Zs,Zg hp]
   exact k2
end
end Go.Pm
end
section
namespace Go.Pm
open Go.RowKit
def intV (op : BinOp) (k : IntKind) (a b : Int) : Option V:=match op with
 | .add=>some (.int k (k.wrap (a + b)))
 | .sub=>some (.int k (k.wrap (a - b)))
 | .mul=>some (.int k (k.wrap (a * b)))
 | .quo=>if b = 0 then none else some (.int k (k.wrap (a.tdiv b)))
 | .rem=>if b = 0 then none else some (.int k (a.tmod b))
 | .and=>some (.int k (k.wrap (BitVec.ofInt k.bits a &&& BitVec.ofInt k.bits b).toNat))
 | .or=>some (.int k (k.wrap (BitVec.ofInt k.bits a ||| BitVec.ofInt k.bits b).toNat))
 | .xor=>some (.int k (k.wrap (BitVec.ofInt k.bits a ^^^ BitVec.ofInt k.bits b).toNat))
 | .andNot=>some (.int k (k.wrap (BitVec.ofInt k.bits a &&& ~~~ BitVec.ofInt k.bits b).toNat))
 | .eql=>some (.bool (a == b))
 | .neq=>some (.bool (a != b))
 | .lss=>some (.bool (decide (a < b)))
 | .leq=>some (.bool (decide (a ≤ b)))
 | .gtr=>some (.bool (decide (a > b)))
 | .geq=>some (.bool (decide (a ≥ b)))
 | _=>none
def strV (op : BinOp) (a b : ByteArray) : Option V:=match op with
 | .add=>if a.size + b.size ≤ 2 ^ 62 then some (.str (a ++ b)) else none
 | .eql=>some (.bool (a.toList == b.toList))
 | .neq=>some (.bool (!(a.toList == b.toList)))
 | _=>none
def cellEq : V → V → Option Bool
 | .int k a,.int k' b=>if k = k' then some (a == b) else none
 | .bool a,.bool b=>some (a == b)
 | .str a,.str b=>some (a.toList == b.toList)
 | _,_=>none
def binV (op : BinOp) : V → V → Option V
 | .int k a,.int k' b=>match op with
   | .shl=>if b < 0 then none else some (.int k (k.wrap (a * 2 ^ min b.toNat k.bits)))
   | .shr=>if b < 0 then none else some (.int k (a.fdiv (2 ^ min b.toNat k.bits)))
   | op=>if k = k' then intV op k a b else none
 | .str a,.str b=>strV op a b
 | _,_=>none
theorem run_binV {P : Program} {w : World} {c : Cx} {op : BinOp} {t : TypeId} {x y r : V} {u v : Value} (h : binV op x y = some r) (hx : RV c x u) (hy : RV c y v) (xo yo : Operand) :
  ∃ z,((do eqGuard op t xo yo u v; binOp op t u v) : Sem Value).run P w = .ok z w ∧ RV c r z:=by
 unfold binV at h
 split at h
 ·rename_i k a k' b
  have hu : u = .int k a:=hx
  have hv : v = .int k' b:=hy
  subst hu; subst hv
  have hg : (eqGuard op t xo yo (.int k a) (.int k' b)).run P w = .ok () w:=by
   unfold eqGuard
   cases op <;> simp
  simp only [Sem.run_bind,hg,Result.andThen_ok]
  split at h
  ·split at h
   ·cases h
   ·rename_i hb
    simp only [Option.some.injEq] at h; subst h
    refine ⟨_,?_,rfl⟩
    simp [binOp,Op.shift,hb]
  ·split at h
   ·cases h
   ·rename_i hb
    simp only [Option.some.injEq] at h; subst h
    refine ⟨_,?_,rfl⟩
    simp [binOp,Op.shift,hb]
  ·rename_i h1 h2
   split at h
   ·rename_i hk; subst hk
    cases op <;> simp only [intV] at h <;> first
     | (exact absurd rfl h1)
     | (exact absurd rfl h2)
     | (cases h; done)
     | (simp only [Option.some.injEq] at h; subst h; refine ⟨_,?_,rfl⟩; simp [binOp,Op.intArith,Op.intBits,Op.intCmp]; done)
     | (split at h
        ·cases h
        ·rename_i hb; simp only [Option.some.injEq] at h; subst h; refine ⟨_,?_,rfl⟩; simp [binOp,Op.intDiv,hb])
   ·cases h
 ·rename_i a b
  have hu : u = .string a:=hx
  have hv : v = .string b:=hy
  subst hu; subst hv
  have hg : (eqGuard op t xo yo (.string a) (.string b)).run P w = .ok () w:=by
   unfold eqGuard
   cases op <;> simp
  simp only [Sem.run_bind,hg,Result.andThen_ok]
  cases op <;> simp only [strV] at h <;> first
   | (cases h; done)
   | (simp only [Option.some.injEq] at h; subst h; refine ⟨_,?_,rfl⟩; simp [binOp,Op.stringOp]; done)
   | (split at h
      ·rename_i hb
       simp only [Option.some.injEq] at h; subst h
       refine ⟨_,?_,rfl⟩
       have : ¬ ((a.size + b.size : Nat) : Int) > IntKind.i64.max:=by
        have : IntKind.i64.max = 9223372036854775807:=rfl
        omega
       simp only [binOp,Op.stringOp]
       rw [if_neg this]
       rfl
      ·cases h)
 ·cases h
def boolV (op : BinOp) : V → V → Option V
 | .bool a,.bool b=>match op with
   | .eql=>some (.bool (a == b))
   | .neq=>some (.bool (a != b))
   | _=>none
 | _,_=>none
theorem run_equalIn_bool {P : Program} {w : World} {t : TypeId} (ht : P.underlying t = some .bool) (d : Nat) (a b : Bool) : (Op.equalIn (d + 1) t (.bool a) (.bool b)).run P w = .ok (a == b) w:=by
 simp [Op.equalIn,run_und ht]
theorem run_equal_bool {P : Program} {w : World} {t : TypeId} (ht : P.underlying t = some .bool) (a b : Bool) : (Op.equal t (.bool a) (.bool b)).run P w = .ok (a == b) w:=run_equalIn_bool ht 9999 a b
theorem run_boolV {P : Program} {w : World} {c : Cx} {op : BinOp} {t : TypeId} {x y r : V} {u v : Value} (ht : P.underlying t = some .bool) (h : boolV op x y = some r) (hx : RV c x u) (hy : RV c y v) (xo yo : Operand) :
  ∃ z,((do eqGuard op t xo yo u v; binOp op t u v) : Sem Value).run P w = .ok z w ∧ RV c r z:=by
 unfold boolV at h
 split at h
 ·rename_i a b
  have hu : u = .bool a:=hx
  have hv : v = .bool b:=hy
  subst hu; subst hv
  have hg : (eqGuard op t xo yo (.bool a) (.bool b)).run P w = .ok () w:=by
   unfold eqGuard
   cases op <;> simp
  simp only [Sem.run_bind,hg,Result.andThen_ok]
  split at h
  ·simp only [Option.some.injEq] at h; subst h
   refine ⟨_,?_,rfl⟩
   show ((do pure (.bool (← Op.equal t (.bool a) (.bool b)))) : Sem Value).run P w = _
   simp only [Sem.run_bind,run_equal_bool ht,Result.andThen_ok,Sem.run_pure]
  ·simp only [Option.some.injEq] at h; subst h
   refine ⟨_,?_,rfl⟩
   show ((do pure (.bool (!(← Op.equal t (.bool a) (.bool b))))) : Sem Value).run P w = _
   simp only [Sem.run_bind,run_equal_bool ht,Result.andThen_ok,Sem.run_pure]
   rfl
  ·cases h
 ·cases h
def isBoolT (P : Program) (t : TypeId) : Bool:=match P.underlying t with
 | some .bool=>true
 | _=>false
def isStrT (P : Program) (t : TypeId) : Bool:=match P.underlying t with
 | some .string=>true
 | _=>false
def intT (P : Program) (t : TypeId) : Option IntKind:=match P.underlying t with
 | some (.int k)=>some k
 | _=>none
def hasT (P : Program) (t : TypeId) : Bool:=(P.underlying t).isSome
def byteAt (s : ByteArray) (i : Nat) : Int:=((s[i]?).map fun b=>(b.toNat : Int)).getD 0
def rdVC (ag : Bool) (sz : Nat) (cs : List V) (K : V → Prop) : Prop:=if ag then sz ≤ cs.length ∧ K (.agg (cs.take sz)) else 0 < cs.length ∧ K (cs.getD 0 .junk)
def ldVC (P : Program) (t : TypeId) (m : List Ob) (x : V) (K : V → Prop) : Prop:=match lay P t with
 | some (sz,ag)=>match x with
   | .ptr o off=>match m[o]? with
     | some (.box _ cs)=>rdVC ag sz (cs.drop off) K
     | _=>False
   | .eptr o i off=>match m[o]? with
     | some (.arr _ _ xs)=>i < xs.length ∧ rdVC ag sz ((xs.getD i []).drop off) K
     | _=>False
   | .sptr _ xs i off=>i < xs.length ∧ rdVC ag sz ((xs.getD i []).drop off) K
   | .fptr cs off=>rdVC ag sz (cs.drop off) K
   | _=>False
 | none=>False
def fillV (P : Program) (t : TypeId) (ev : Operand → V) : List V → List (Nat × Operand) → Option (List V)
 | cs,[]=>some cs
 | cs,(i,x) :: r=>match fld P t i with
   | some (off,n,ag) =>
    if off + n ≤ cs.length then
     if ag then match ev x with
      | .agg ys=>if ys.length = n then fillV P t ev (cs.take off ++ ys ++ cs.drop (off + n)) r else none
      | _=>none
     else if n = 1 then match ev x with
      | .agg _=>none
      | .tup _=>none
      | .junk=>none
      | y=>fillV P t ev (cs.take off ++ [y] ++ cs.drop (off + n)) r
     else none
    else none
   | none=>none
def V.step (off : Nat) : V → Option V
 | .ptr o p=>some (.ptr o (p + off))
 | .eptr o i p=>some (.eptr o i (p + off))
 | .sptr sz xs i p=>some (.sptr sz xs i (p + off))
 | .fptr cs p=>some (.fptr cs (p + off))
 | _=>none
def V.notNil : V → Bool
 | .ptr _ _=>true
 | .eptr _ _ _=>true
 | .sptr _ _ _ _=>true
 | .fptr _ _=>true
 | .fn _ _ _=>true
 | _=>false
def bnd (ev : Operand → V) (d : Int) : Option Operand → Option Int
 | none=>some d
 | some x=>match ev x with
   | .int _ n=>some n
   | _=>none
def lenV (m : List Ob) : V → Option Int
 | .str s=>some s.size
 | .sl _ xs=>some xs.length
 | .ar _ _ n=>some n
 | .nil=>some 0
 | _=>none
def mm (gt : Bool) : V → V → Option V
 | .int k x,.int k' y=>some (.int k (if (if gt then x < y else y < x) then y else x))
 | _,_=>none
end Go.Pm
end
section
namespace Go.Pm
open Go.RowKit
section
variable {P : Program} {o : Oper} {ev : Operand → V} {mT : List Ob} {base : Nat} {K : V → List Ob → Prop}
abbrev Goal (P : Program) (o : Oper) (ev : Operand → V) (mT : List Ob) (base : Nat) (K : V → List Ob → Prop) : Prop:=∃ r new,QS P o ev mT base r new ∧ K r new
theorem q_move {x : Operand} (ho : o.op = .move x) (h : K (ev x) []) : Goal P o ev mT base K :=
 ⟨_,_,QS.value fun w Zo m β a M A hx=>⟨_,by simp [execOp,ho],hx x (by rw [ho]; simp [Op.operands])⟩,h⟩
theorem q_assign {x : Operand} (ho : o.op = .assign x) (h : K (ev x) []) : Goal P o ev mT base K :=
 ⟨_,_,QS.value fun w Zo m β a M A hx=>⟨_,by simp [execOp,ho],hx x (by rw [ho]; simp [Op.operands])⟩,h⟩
theorem q_pick {c x y : Operand} {t : Bool} (ho : o.op = .pick c x y) (hc : ev c = .bool t) (h : K (if t then ev x else ev y) []) : Goal P o ev mT base K :=
 ⟨_,_,QS.value fun w Zo m β a M A hx=>by
  have h1 : a.eval c = .bool t:=by have:=hx c (by rw [ho]; simp [Op.operands]); rwa [hc] at this
  have h2:=hx x (by rw [ho]; simp [Op.operands])
  have h3:=hx y (by rw [ho]; simp [Op.operands])
  refine ⟨if t then a.eval x else a.eval y,?_,?_⟩
  ·simp only [execOp,ho,h1,asBool,Sem.run_bind,Sem.run_pure,Result.andThen_ok]
  ·cases t
   ·simpa using h3
   ·simpa using h2,h⟩
def oneV (m : List Ob) : V → Bool
 | .int _ _=>true
 | .bool _=>true
 | .str _=>true
 | .nil=>true
 | .e0=>true
 | .np=>true
 | .sl _ _=>true
 | .sptr _ _ _ _=>true
 | .fptr _ _=>true
 | .fn _ _ _=>true
 | .fmap _ _=>true
 | .ar o _ _=>match m[o]? with
   | some (.arr _ _ _)=>true
   | _=>false
 | .arc o _ _ _=>match m[o]? with
   | some (.arr _ _ _)=>true
   | _=>false
 | .ptr o _=>match m[o]? with
   | some (.box _ _)=>true
   | _=>false
 | .eptr o _ _=>match m[o]? with
   | some (.arr _ _ _)=>true
   | _=>false
 | .map o=>match m[o]? with
   | some (.mp _ _ _)=>true
   | _=>false
 | _=>false
theorem one_cells {w : World} {Zo : Nat → Prop} {m : List Ob} {β : List Lc} (M : Mem w Zo m β) (A : Agree mT m) {x : V} {v : Value} (h1 : oneV mT x = true) (h : RV (cx w Zo m β) x v) : v.oneCell' = true:=by
 cases x with
 | junk=>simp [oneV] at h1
 | int k n=>rw [show v = _ from h]; rfl
 | bool b=>rw [show v = _ from h]; rfl
 | str s=>rw [show v = _ from h]; rfl
 | nil=>rw [show v = _ from h]; rfl
 | e0=>obtain ⟨_,h⟩:=h; rw [h]; rfl
 | np=>rw [show v = _ from h]; rfl
 | sl sz xs=>obtain ⟨_,_,h,_⟩:=h; rw [h]; rfl
 | sptr sz xs i off=>obtain ⟨_,_,h,_⟩:=h; rw [h]; rfl
 | fptr cs off=>obtain ⟨_,h,_⟩:=h; rw [h]; rfl
 | ar p off len =>
  simp only [oneV] at h1
  split at h1
  ·rename_i hT
   obtain ⟨_,l,_,_,_,A',e,_⟩:=at_ar M A hT h
   rw [e]; rfl
  ·cases h1
 | arc p off len cap =>
  simp only [oneV] at h1
  split at h1
  ·rename_i hT
   obtain ⟨_,l,_,_,_,A',e,_⟩:=at_ar M A hT (RV_arc h)
   rw [e]; rfl
  ·cases h1
 | ptr p off =>
  simp only [oneV] at h1
  split at h1
  ·rename_i hT
   obtain ⟨_,l,_,_,e⟩:=at_ptr M A hT h (by simp)
   rw [e]; rfl
  ·cases h1
 | eptr p i off =>
  simp only [oneV] at h1
  split at h1
  ·rename_i hT
   obtain ⟨_,l,_,_,e⟩:=at_eptr M A hT h
   rw [e]; rfl
  ·cases h1
 | fn f fs cs=>obtain ⟨_,_,h,_⟩:=h; rw [h]; rfl
 | map p =>
  simp only [oneV] at h1
  split at h1
  ·rename_i hT
   obtain ⟨_,l,_,_,e⟩:=at_map M A hT h
   rw [e]; rfl
  ·cases h1
 | fmap ks vs=>obtain ⟨_,_,_,h,_⟩:=h; rw [h]; rfl
 | agg cs=>simp [oneV] at h1
 | tup cs=>simp [oneV] at h1
theorem cells_one {v : Value} (h : v.oneCell' = true) : v.cells = #[v]:=by
 cases v <;> first | rfl | (simp [Value.oneCell'] at h)
theorem alloc_eq (w : World) (o : Obj) : ({ w with heap:=w.heap.push o } : World) = w.alloc o:=rfl
theorem heap_new (w : World) (o : Obj) : (w.alloc o).heap[w.heap.size]? = some o:=by
 show (w.heap.push o)[w.heap.size]? = _
 simp
theorem cell_new (w : World) (us : Array Value) (e : TypeId) (fr : Nat × Nat) (j : Nat) : (w.alloc (.cells us e fr)).cell? ⟨w.heap.size,j,none⟩ = us[j]?:=by
 unfold World.cell?
 rw [heap_new]
 rfl
theorem q_newbox {e : TypeId} {cs : List V} (h : ∀ (w : World) (Zo : Nat → Prop) (m : List Ob) (β : List Lc) (a : Act),Mem w Zo m β → Agree mT m → (∀ x ∈ o.op.operands,RV (cx w Zo m β) (ev x) (a.eval x)) →
  ∃ us : Array Value,(execOp a.eval o).run P w = .ok (.value (.pointer (some ⟨w.heap.size,0,none⟩))) (w.alloc (.cells us e)) ∧ us.size = cs.length ∧ RVs (cx w Zo m β) cs us.toList) (hk : K (.ptr base 0) [.box true cs]) : Goal P o ev mT base K:=by
 refine ⟨_,_,QS.new1 fun w Zo m β a M A hx=>?_,hk⟩
 obtain ⟨us,h1,h2,h3⟩:=h w Zo m β a M A hx
 refine ⟨_,_,⟨w.heap.size,0⟩,h1,Grow.alloc w _,fun b hb=>by simp [Ob.blk] at hb; omega,?_⟩
 intro c' hle hw hm hβ hob
 refine ⟨⟨us,e,(0,0),by rw [hw]; exact heap_new w _,h2,NoFr.zero _,?_,.inl rfl⟩,?_⟩
 ·refine RC.of (h3.mono hle) fun j u hj=>?_
  rw [hw,cell_new,Zc]
  simpa using hj
 ·unfold RV
  rw [hob,hβ]
theorem q_alloc {e : TypeId} {cs : List V} (ho : o.op = .alloc e) (hz : zer P e = some cs) (h : K (.ptr base 0) [.box true cs]) : Goal P o ev mT base K:=by
 refine q_newbox (e:=e) (fun w Zo m β a M A hx=>?_) h
 unfold zer at hz
 split at hz
 ·rename_i i hi
  split at hz
  ·rename_i z hz'
   simp only [Option.some.injEq] at hz; subst hz
   refine ⟨z.cells,?_,by simp,RVs_ofVal1 _ _⟩
   simp [execOp,ho,Instr.alloc,zeroValue,typeInfo,hi,hz',newVar,newRow,alloc_eq]
  ·cases hz
 ·cases hz
theorem q_box1 {e : TypeId} {x : Operand} (ho : o.op = .box e x) (h1 : oneV mT (ev x) = true) (h : K (.ptr base 0) [.box true [ev x]]) : Goal P o ev mT base K:=by
 refine q_newbox (e:=e) (fun w Zo m β a M A hx=>?_) h
 have hv:=hx x (by rw [ho]; simp [Op.operands])
 have hc:=cells_one (one_cells M A h1 hv)
 refine ⟨#[a.eval x],?_,by simp,⟨_,_,rfl,hv,rfl⟩⟩
 simp [execOp,ho,Instr.box,newVar,newRow,alloc_eq,hc]
theorem q_box {e : TypeId} {x : Operand} {cs : List V} (ho : o.op = .box e x) (h1 : ev x = .agg cs) (h : K (.ptr base 0) [.box true cs]) : Goal P o ev mT base K:=by
 refine q_newbox (e:=e) (fun w Zo m β a M A hx=>?_) h
 have hv:=hx x (by rw [ho]; simp [Op.operands])
 rw [h1] at hv
 obtain ⟨us,e1,e2⟩:=hv
 refine ⟨us,?_,by rw [← Array.length_toList,e2.length],e2⟩
 simp [execOp,ho,Instr.box,newVar,newRow,alloc_eq,e1,Value.cells]
theorem rd_sound {c : Cx} {t : TypeId} {b p : Nat} {cs : List V} {sz : Nat} {ag : Bool} {K1 : V → Prop} (hl : lay P t = some (sz,ag)) (h : RC c b p cs) (k : rdVC ag sz cs K1) :
  ∃ r,K1 r ∧ ∃ v,(Go.loadVar t ⟨b,p,none⟩).run P c.w = .ok v c.w ∧ RV c r v:=by
 unfold rdVC at k
 cases ag with
 | true =>
  simp only [if_true] at k
  obtain ⟨v,h1,h2⟩:=run_loadVar (P:=P) hl h (fun _=>k.1) (by simp)
  exact ⟨_,k.2,v,h1,h2⟩
 | false =>
  simp only [if_false,ZM] at k
  obtain ⟨v,h1,h2⟩:=run_loadVar (P:=P) hl h (by simp) (fun _=>k.1)
  exact ⟨_,k.2,v,h1,h2⟩
theorem rd_out {ag : Bool} {sz : Nat} {cs : List V} {K1 : V → Prop} (k : rdVC ag sz cs K1) : K1 (if ag then .agg (cs.take sz) else cs.getD 0 .junk) ∧ (ag = true → sz ≤ cs.length) ∧ (ag = false → 0 < cs.length):=by
 unfold rdVC at k
 cases ag with
 | true=>simp only [if_true] at k ⊢; exact ⟨k.2,fun _=>k.1,by simp⟩
 | false=>simp only [if_false,ZM] at k ⊢; exact ⟨k.2,by simp,fun _=>k.1⟩
theorem RR.at_ {c : Cx} {sz b p i : Nat} {xs : List (List V)} (h : RR c sz b p xs) (hi : i < xs.length) : RC c b (p + i * sz) (xs.getD i []):=by
 rw [Zs,Zg hi]
 exact (h.get i (Zg hi)).2
theorem q_load {t : TypeId} {x : Operand} (ho : o.op = .load t x) (h : ldVC P t mT (ev x) (fun r=>K r [])) : Goal P o ev mT base K:=by
 unfold ldVC at h
 split at h
 ·rename_i sz ag hl
  have fin : ∀ (r : V),K r [] → (∀ (w : World) (Zo : Nat → Prop) (m : List Ob) (β : List Lc) (v : Value),Mem w Zo m β → Agree mT m → RV (cx w Zo m β) (ev x) v →
    ∃ b p,v = .pointer (some ⟨b,p,none⟩) ∧ ∃ u,(Go.loadVar t ⟨b,p,none⟩).run P w = .ok u w ∧ RV (cx w Zo m β) r u) → Goal P o ev mT base K:=by
   intro r hk hh
   refine ⟨r,[],QS.value fun w Zo m β a M A hx=>?_,hk⟩
   obtain ⟨b,p,e,u,h1,h2⟩:=hh w Zo m β (a.eval x) M A (hx x (by rw [ho]; simp [Op.operands]))
   refine ⟨u,?_,h2⟩
   simp [execOp,ho,Instr.loadAt,Instr.sureAddr,e,h1]
  split at h
  ·rename_i p off hp
   split at h
   ·rename_i lv cs hT
    obtain ⟨k1,k2,k3⟩:=rd_out h
    refine fin _ k1 fun w Zo m β v M A hv=>?_
    rw [hp] at hv
    obtain ⟨hm,l,_,⟨us,e,fr,_,_,_,hrc,_⟩,e2⟩:=at_ptr M A hT hv (by simp)
    refine ⟨l.b,off,e2,?_⟩
    have:=hrc.drop off
    rw [Zc] at this
    exact run_loadVar (P:=P) (c:=cx w Zo m β) hl this k2 k3
   ·exact h.elim
  ·rename_i p i off hp
   split at h
   ·rename_i lv sz' xs hT
    obtain ⟨hi,h⟩:=h
    obtain ⟨k1,k2,k3⟩:=rd_out h
    refine fin _ k1 fun w Zo m β v M A hv=>?_
    rw [hp] at hv
    obtain ⟨hm,l,_,⟨g1,g2,g3,g4⟩,e2⟩:=at_eptr M A hT hv
    rcases g4 with g4 | ⟨us,e,fr,_,_,_,hrr,_⟩
    ·omega
    refine ⟨l.b,_,e2,?_⟩
    have:=(hrr.at_ hi).drop off
    rw [Zc] at this
    exact run_loadVar (P:=P) (c:=cx w Zo m β) hl this k2 k3
   ·exact h.elim
  ·rename_i sz' xs i off hp
   obtain ⟨hi,h⟩:=h
   obtain ⟨k1,k2,k3⟩:=rd_out h
   refine fin _ k1 fun w Zo m β v M A hv=>?_
   rw [hp] at hv
   obtain ⟨b,p,e2,_,hrr⟩:=hv
   exact ⟨b,_,e2,run_loadVar (P:=P) (c:=cx w Zo m β) hl ((hrr.at_ hi).drop off) k2 k3⟩
  ·rename_i cs off hp
   obtain ⟨k1,k2,k3⟩:=rd_out h
   refine fin _ k1 fun w Zo m β v M A hv=>?_
   rw [hp] at hv
   obtain ⟨b,e2,_,hrc⟩:=hv
   have:=hrc.drop off
   rw [Zc] at this
   exact ⟨b,_,e2,run_loadVar (P:=P) (c:=cx w Zo m β) hl this k2 k3⟩
  ·exact h.elim
 ·exact h.elim
theorem q_nilCheck {x : Operand} (ho : o.op = .nilCheck x) (hn : (ev x).notNil = true) (hone : oneV mT (ev x) = true) (h : K (ev x) []) : Goal P o ev mT base K:=by
 refine ⟨_,_,QS.value fun w Zo m β a M A hx=>?_,h⟩
 have hv:=hx x (by rw [ho]; simp [Op.operands])
 refine ⟨a.eval x,?_,hv⟩
 cases hxv : ev x <;> rw [hxv] at hn hv hone <;> simp only [V.notNil,ZM] at hn
 case sptr=>obtain ⟨b,p,e,_⟩:=hv; simp [execOp,ho,e]
 case fptr=>obtain ⟨b,e,_⟩:=hv; simp [execOp,ho,e]
 case fn=>obtain ⟨us,vs,e,_⟩:=hv; simp [execOp,ho,e]
 case ptr =>
  simp only [oneV] at hone
  split at hone
  ·rename_i hT
   obtain ⟨_,l,_,_,e⟩:=at_ptr M A hT hv (by simp)
   simp [execOp,ho,e]
  ·cases hone
 case eptr =>
  simp only [oneV] at hone
  split at hone
  ·rename_i hT
   obtain ⟨_,l,_,_,e⟩:=at_eptr M A hT hv
   simp [execOp,ho,e]
  ·cases hone
theorem q_bin {op : BinOp} {t u : TypeId} {x y : Operand} {r : V} (ho : o.op = .binOp op t x y u) (hb : binV op (ev x) (ev y) = some r) (h : K r []) : Goal P o ev mT base K:=by
 refine ⟨_,_,QS.value fun w Zo m β a M A hx=>?_,h⟩
 obtain ⟨z,h1,h2⟩:=run_binV (P:=P) (w:=w) (t:=t) hb (hx x (by rw [ho]; simp [Op.operands])) (hx y (by rw [ho]; simp [Op.operands])) x y
 refine ⟨z,?_,h2⟩
 simp only [execOp,ho]
 rw [Sem.run_bind,h1]
 rfl
theorem q_binb {op : BinOp} {t u : TypeId} {x y : Operand} {r : V} (ho : o.op = .binOp op t x y u) (ht : isBoolT P t = true) (hb : boolV op (ev x) (ev y) = some r) (h : K r []) : Goal P o ev mT base K:=by
 refine ⟨_,_,QS.value fun w Zo m β a M A hx=>?_,h⟩
 have ht' : P.underlying t = some .bool:=by
  unfold isBoolT at ht
  split at ht
  ·assumption
  ·cases ht
 obtain ⟨z,h1,h2⟩:=run_boolV (P:=P) (w:=w) (t:=t) ht' hb (hx x (by rw [ho]; simp [Op.operands])) (hx y (by rw [ho]; simp [Op.operands])) x y
 refine ⟨z,?_,h2⟩
 simp only [execOp,ho]
 rw [Sem.run_bind,h1]
 rfl
theorem q_not {t : TypeId} {x : Operand} {b : Bool} (ho : o.op = .unOp .not t x) (hx' : ev x = .bool b) (h : K (.bool (!b)) []) : Goal P o ev mT base K:=by
 refine ⟨_,_,QS.value fun w Zo m β a M A hx=>?_,h⟩
 have hv:=hx x (by rw [ho]; simp [Op.operands])
 rw [hx'] at hv
 exact ⟨_,by simp only [execOp,ho]; rw [show a.eval x = .bool b from hv]; rfl,rfl⟩
theorem q_neg {t : TypeId} {x : Operand} {k : IntKind} {n : Int} (ho : o.op = .unOp .neg t x) (hx' : ev x = .int k n) (h : K (.int k (k.wrap (0 - n))) []) : Goal P o ev mT base K:=by
 refine ⟨_,_,QS.value fun w Zo m β a M A hx=>?_,h⟩
 have hv:=hx x (by rw [ho]; simp [Op.operands])
 rw [hx'] at hv
 exact ⟨_,by simp only [execOp,ho]; rw [show a.eval x = .int k n from hv]; rfl,rfl⟩
theorem q_xor {t : TypeId} {x : Operand} {k : IntKind} {n : Int} (ho : o.op = .unOp .xor t x) (hx' : ev x = .int k n) (h : K (.int k (k.wrap (BitVec.ofInt k.bits (if k.signed then -1 else k.max) ^^^ BitVec.ofInt k.bits n).toNat)) []) : Goal P o ev mT base K:=by
 refine ⟨_,_,QS.value fun w Zo m β a M A hx=>?_,h⟩
 have hv:=hx x (by rw [ho]; simp [Op.operands])
 rw [hx'] at hv
 exact ⟨_,by simp only [execOp,ho]; rw [show a.eval x = .int k n from hv]; rfl,rfl⟩
theorem q_conv {src dst : TypeId} {x : Operand} {k k' : IntKind} {n : Int} (ho : o.op = .convert src dst x) (hs : hasT P src = true) (ht : intT P dst = some k) (hx' : ev x = .int k' n) (h : K (.int k (k.wrap n)) []) : Goal P o ev mT base K:=by
 refine ⟨_,_,QS.value fun w Zo m β a M A hx=>?_,h⟩
 have hv:=hx x (by rw [ho]; simp [Op.operands])
 rw [hx'] at hv
 obtain ⟨d,hd⟩:=Zv.1 hs
 have ht' : P.underlying dst = some (.int k):=by
  unfold intT at ht
  split at ht
  ·rename_i k2 h2; simp at ht; subst ht; exact h2
  ·cases ht
 refine ⟨_,?_,rfl⟩
 simp only [execOp,ho]
 rw [show a.eval x = .int k' n from hv]
 simp only [convert,Sem.run_bind,run_und hd,run_und ht',Result.andThen_ok]
 rfl
theorem run_evs {a : Act} {c : Cx} : ∀ (l : List Operand),(∀ x ∈ l,RV c (ev x) (a.eval x)) → RVs c (l.map ev) (l.map a.eval)
 | [],_=>rfl
 | x :: l,h=>⟨_,_,rfl,h x Zq,run_evs l fun y hy=>h y (Zr _ hy)⟩
theorem q_makeFunc {f : FuncId} {fs cs : Array Operand} (ho : o.op = .makeFunc (.func f) fs cs) (h : K (.fn f (fs.toList.map ev) (cs.toList.map ev)) []) : Goal P o ev mT base K:=by
 refine ⟨_,_,QS.value fun w Zo m β a M A hx=>?_,h⟩
 rw [ho] at hx
 refine ⟨.func (.func f) (fs.map a.eval) (cs.map a.eval),by simp [execOp,ho,Instr.makeFunc],_,_,rfl,?_,?_⟩
 ·have:=run_evs (a:=a) (c:=cx w Zo m β) fs.toList (fun x hx'=>hx x (by simp [Op.operands] at hx' ⊢; exact .inl hx'))
  simpa using this
 ·have:=run_evs (a:=a) (c:=cx w Zo m β) cs.toList (fun x hx'=>hx x (by simp [Op.operands] at hx' ⊢; exact .inr hx'))
  simpa using this
theorem q_extract {x : Operand} {i : Nat} {vs : List V} (ho : o.op = .extract x i) (hx' : ev x = .tup vs) (hi : i < vs.length) (h : K (vs.getD i .junk) []) : Goal P o ev mT base K:=by
 refine ⟨_,_,QS.value fun w Zo m β a M A hx=>?_,h⟩
 have hv:=hx x (by rw [ho]; simp [Op.operands])
 rw [hx'] at hv
 obtain ⟨us,e,h1⟩:=hv
 obtain ⟨u,k1,k2⟩:=h1.get i (Zg hi)
 refine ⟨u,?_,?_⟩
 ·have k1' : us[i]? = some u:=by simpa using k1
  simp only [execOp,ho,e,Instr.extract,k1']
  rfl
 ·rw [Zs,Zg hi]
  exact k2
end
end Go.Pm
end
section
namespace Go.Pm
open Go.RowKit
section
variable {P : Program} {o : Oper} {ev : Operand → V} {mT : List Ob} {base : Nat} {K : V → List Ob → Prop}
theorem fld_out {s f off n : Nat} {ag : Bool} (h : fld P s f = some (off,n,ag)) : ∃ fs fd,P.underlying s = some (.struct fs) ∧ fs[f]? = some fd ∧ fd.offset = off ∧ lay P fd.type = some (n,ag):=by
 unfold fld at h
 split at h
 ·rename_i fs hs
  split at h
  ·rename_i fd hf
   split at h
   ·rename_i n' b' hl
    simp only [Option.some.injEq,Prod.mk.injEq] at h
    obtain ⟨h1,h2,h3⟩:=h
    subst h1; subst h2; subst h3
    exact ⟨fs,fd,hs,hf,rfl,hl⟩
   ·cases h
  ·cases h
 ·cases h
theorem run_fieldAt {w : World} {s f off n b p : Nat} {ag : Bool} (h : fld P s f = some (off,n,ag)) (hn : 0 < n) : (Instr.fieldAt s (.pointer (some ⟨b,p,none⟩)) f).run P w = .ok (.pointer (some ⟨b,p + off,none⟩)) w:=by
 obtain ⟨fs,fd,h1,h2,h3,h4⟩:=fld_out h
 have h5 : ¬ n = 0:=by omega
 simp [Instr.fieldAt,run_und h1,h2,Instr.sureAddr,fieldPlace,run_sz h4,h5,add_plain,h3]
theorem q_fieldAddr {s f off n : Nat} {ag : Bool} {x : Operand} {r : V} (ho : o.op = .fieldAddr s x f) (hf : fld P s f = some (off,n,ag)) (hn : 0 < n) (hx' : (ev x).step off = some r) (hone : oneV mT (ev x) = true) (h : K r []) : Goal P o ev mT base K:=by
 refine ⟨_,_,QS.value fun w Zo m β a M A hx=>?_,h⟩
 have hv:=hx x (by rw [ho]; simp [Op.operands])
 cases hxv : ev x <;> rw [hxv] at hv hx' hone <;> simp only [V.step,Option.some.injEq,reduceCtorEq] at hx' <;> subst hx'
 case sptr =>
  obtain ⟨b,p,e,h1,h2⟩:=hv
  refine ⟨_,by simp only [execOp,ho]; rw [e,Sem.run_bind,run_fieldAt hf hn]; rfl,b,p,by rw [Zp],h1,h2⟩
 case fptr =>
  obtain ⟨b,e,h1,h2⟩:=hv
  refine ⟨_,by simp only [execOp,ho]; rw [e,Sem.run_bind,run_fieldAt hf hn]; rfl,b,rfl,h1,h2⟩
 case ptr =>
  simp only [oneV] at hone
  split at hone
  ·rename_i hT
   obtain ⟨hm,l,hl,_,e⟩:=at_ptr M A hT hv (by simp)
   refine ⟨_,by simp only [execOp,ho]; rw [e,Sem.run_bind,run_fieldAt hf hn]; rfl,?_⟩
   unfold RV
   rw [show (cx w Zo m β).m = m from rfl,show (cx w Zo m β).β = β from rfl,hm,hl]
  ·cases hone
 case eptr =>
  simp only [oneV] at hone
  split at hone
  ·rename_i hT
   obtain ⟨hm,l,hl,_,e⟩:=at_eptr M A hT hv
   refine ⟨_,by simp only [execOp,ho]; rw [e,Sem.run_bind,run_fieldAt hf hn]; rfl,?_⟩
   unfold RV
   rw [show (cx w Zo m β).m = m from rfl,show (cx w Zo m β).β = β from rfl,hm,hl]
   show Value.pointer _ = _
   rw [Zp]
  ·cases hone
theorem q_field {t f off n : Nat} {ag : Bool} {x : Operand} {cs : List V} (ho : o.op = .field t x f) (hf : fld P t f = some (off,n,ag)) (hx' : ev x = .agg cs) (h : rdVC ag n (cs.drop off) (fun r=>K r [])) : Goal P o ev mT base K:=by
 obtain ⟨k1,k2,k3⟩:=rd_out h
 refine ⟨_,_,QS.value fun w Zo m β a M A hx=>?_,k1⟩
 have hv:=hx x (by rw [ho]; simp [Op.operands])
 rw [hx'] at hv
 obtain ⟨us,e,h1⟩:=hv
 obtain ⟨fs,fd,g1,g2,g3,g4⟩:=fld_out hf
 have h2 : (execOp a.eval o).run P w = ((part fd.type us off).run P w).andThen (fun v w'=>Result.ok (.value v) w'):=by
  simp only [execOp,ho]
  rw [e]
  simp [Instr.field,run_und g1,g2,asAgg,g3]
 rw [h2]
 unfold part
 simp only [Sem.run_bind,run_ag g4,Result.andThen_ok]
 cases ag with
 | true =>
  have h3:=(h1.drop off).take n
  refine ⟨.agg (us.extract off (off + n)),by simp [run_sz g4],_,rfl,?_⟩
  simp only [Array.toList_extract,List.extract_eq_take_drop,ZN]
  exact h3
 | false =>
  have hp:=k3 rfl
  rw [ZO] at hp
  have hlt : off < cs.length:=by omega
  obtain ⟨u,q1,q2⟩:=h1.get off (Zg hlt)
  have q1' : us[off]? = some u:=by simpa using q1
  refine ⟨u,by simp [q1'],?_⟩
  simp only [ZM,if_false]
  rw [Zs,Yf,Zy,Zg hlt]
  exact q2
theorem elt_out {t e : TypeId} (h : elt P t = some e) : P.underlying t = some (.slice e):=by
 unfold elt at h
 split at h
 ·rename_i e' he; simp at h; subst h; exact he
 ·cases h
theorem run_indexAt {w : World} {t e : TypeId} {sz : Nat} {ag : Bool} {b p len cp : Nat} {k : IntKind} {i : Int} (he : elt P t = some e) (hl : lay P e = some (sz,ag)) (h0 : 0 ≤ i) (h1 : i < len) :
  (Instr.indexAt t (.slice (some ⟨b,p,none⟩) len cp) (.int k i)).run P w = .ok (.pointer (some ⟨b,p + i.toNat * sz,none⟩)) w:=by
 simp [Instr.indexAt,asIntOf,run_und (elt_out he),h0,h1,run_sz hl,add_plain]
theorem q_index_sl {t e : TypeId} {sz : Nat} {ag : Bool} {x y : Operand} {xs : List (List V)} {k : IntKind} {i : Int} (ho : o.op = .indexAddr t x y) (he : elt P t = some e) (hl : lay P e = some (sz,ag)) (hx' : ev x = .sl sz xs) (hy' : ev y = .int k i)
  (h0 : 0 ≤ i) (h1 : i < xs.length) (h : K (.sptr sz xs i.toNat 0) []) : Goal P o ev mT base K:=by
 refine ⟨_,_,QS.value fun w Zo m β a M A hx=>?_,h⟩
 have hv:=hx x (by rw [ho]; simp [Op.operands])
 have hw:=hx y (by rw [ho]; simp [Op.operands])
 rw [hx'] at hv
 rw [hy'] at hw
 obtain ⟨A',cp,e1,g1,g2,g3⟩:=hv
 rcases g3 with rfl | ⟨b,p,rfl,hf,hr⟩
 ·simp at h1; omega
 refine ⟨_,by simp only [execOp,ho]; rw [e1,show a.eval y = .int k i from hw,Sem.run_bind,run_indexAt he hl h0 h1]; rfl,b,p,rfl,hf,hr⟩
theorem q_index_ar {t e : TypeId} {sz : Nat} {ag : Bool} {x y : Operand} {q off len : Nat} {lv : Bool} {xs : List (List V)} {k : IntKind} {i : Int} (ho : o.op = .indexAddr t x y) (he : elt P t = some e) (hl : lay P e = some (sz,ag)) (hx' : ev x = .ar q off len) (hT : mT[q]? = some (.arr lv sz xs)) (hy' : ev y = .int k i)
  (h0 : 0 ≤ i) (h1 : i < len) (h : K (.eptr q (off + i.toNat) 0) []) : Goal P o ev mT base K:=by
 refine ⟨_,_,QS.value fun w Zo m β a M A hx=>?_,h⟩
 have hv:=hx x (by rw [ho]; simp [Op.operands])
 have hw:=hx y (by rw [ho]; simp [Op.operands])
 rw [hx'] at hv
 rw [hy'] at hw
 obtain ⟨hm,l,hβ,⟨g1,g2,g3,g4⟩,g5,A',e1,g6⟩:=at_ar M A hT hv
 have hA:=g6 (by omega)
 subst hA
 refine ⟨_,by simp only [execOp,ho]; rw [e1,show a.eval y = .int k i from hw,Sem.run_bind,run_indexAt he hl h0 h1]; rfl,?_⟩
 unfold RV
 rw [show (cx w Zo m β).m = m from rfl,show (cx w Zo m β).β = β from rfl,hm,hβ]
 show Value.pointer _ = _
 rw [Zf]
 rfl
theorem q_index_str {t : TypeId} {x y : Operand} {s : ByteArray} {k : IntKind} {i : Int} (ho : o.op = .index t x y) (ht : isStrT P t = true) (hx' : ev x = .str s) (hy' : ev y = .int k i)
  (h0 : 0 ≤ i) (h1 : i < s.size) (h : K (.int .u8 (byteAt s i.toNat)) []) : Goal P o ev mT base K:=by
 refine ⟨_,_,QS.value fun w Zo m β a M A hx=>?_,h⟩
 have hv:=hx x (by rw [ho]; simp [Op.operands])
 have hw:=hx y (by rw [ho]; simp [Op.operands])
 rw [hx'] at hv
 rw [hy'] at hw
 have ht' : P.underlying t = some .string:=by
  unfold isStrT at ht
  split at ht
  ·assumption
  ·cases ht
 have hb : i.toNat < s.size:=by omega
 refine ⟨_,?_,rfl⟩
 simp only [execOp,ho]
 rw [show a.eval x = .string s from hv,show a.eval y = .int k i from hw]
 simp [Instr.index,asIntOf,run_und ht',h0,byteAt,hb]
theorem q_len {x : Operand} {n : Int} {t : TypeId} (ho : o.op = .call { callee:=.builtin .len,args:=#[x],argTypes:=#[t] }) (ht : isStrT P t = true ∨ (elt P t).isSome = true) (hs : (ev x).notNil = false)
  (hn : (match ev x with | .str s=>isStrT P t = true ∧ n = s.size | .sl _ xs=>(elt P t).isSome = true ∧ n = xs.length | .ar q _ len=>(elt P t).isSome = true ∧ n = len ∧ (∃ lv sz xs,mT[q]? = some (.arr lv sz xs)) | .arc q _ len _=>(elt P t).isSome = true ∧ n = len ∧ (∃ lv sz xs,mT[q]? = some (.arr lv sz xs)) | .nil=>(elt P t).isSome = true ∧ n = 0 | _=>False)) (h : K (.int .i64 n) []) : Goal P o ev mT base K:=by
 refine ⟨_,_,QS.value fun w Zo m β a M A hx=>?_,h⟩
 have hv:=hx x (by rw [ho]; simp [Op.operands,Call.operands])
 refine ⟨_,?_,rfl⟩
 simp only [execOp,ho,resolve,Sem.run_bind,Sem.run_pure,Result.andThen_ok,invoke,builtin]
 cases hxv : ev x <;> rw [hxv] at hv hn <;> simp only at hn
 case str s =>
  obtain ⟨h1,rfl⟩:=hn
  have ht' : P.underlying t = some .string:=by
   unfold isStrT at h1
   split at h1
   ·assumption
   ·cases h1
  simp [Builtin.len_,show a.eval x = .string s from hv,run_und ht',goInt]
 case nil =>
  obtain ⟨h1,rfl⟩:=hn
  obtain ⟨e,he⟩:=Zv.1 h1
  simp [Builtin.len_,show a.eval x = .slice none 0 0 from hv,run_und (elt_out he),goInt]
 case sl sz xs =>
  obtain ⟨h1,rfl⟩:=hn
  obtain ⟨e,he⟩:=Zv.1 h1
  obtain ⟨A',cp,e1,_⟩:=hv
  simp [Builtin.len_,e1,run_und (elt_out he),goInt]
 case ar q off len =>
  obtain ⟨h1,rfl,lv,sz,xs,hT⟩:=hn
  obtain ⟨e,he⟩:=Zv.1 h1
  obtain ⟨hm,l,hβ,_,g5,A',e1,g6⟩:=at_ar M A hT hv
  simp [Builtin.len_,e1,run_und (elt_out he),goInt]
 case arc q off len cap =>
  obtain ⟨h1,rfl,lv,sz,xs,hT⟩:=hn
  obtain ⟨e,he⟩:=Zv.1 h1
  obtain ⟨hm,l,hβ,_,g5,A',e1,g6⟩:=at_ar M A hT (RV_arc hv)
  simp [Builtin.len_,e1,run_und (elt_out he),goInt]
theorem q_cap {x : Operand} {t : TypeId} {q off len cap sz : Nat} {lv : Bool} {xs : List (List V)} (ho : o.op = .call { callee:=.builtin .cap,args:=#[x],argTypes:=#[t] }) (ht : (elt P t).isSome = true) (hx' : ev x = .arc q off len cap) (hT : mT[q]? = some (.arr lv sz xs))
  (h : K (.int .i64 cap) []) : Goal P o ev mT base K:=by
 refine ⟨_,_,QS.value fun w Zo m β a M A hx=>?_,h⟩
 have hv:=hx x (by rw [ho]; simp [Op.operands,Call.operands])
 refine ⟨_,?_,rfl⟩
 simp only [execOp,ho,resolve,Sem.run_bind,Sem.run_pure,Result.andThen_ok,invoke,builtin]
 rw [hx'] at hv
 obtain ⟨e,he⟩:=Zv.1 ht
 obtain ⟨hm,l,hβ,_,g5,A',e1,g6⟩:=at_ar M A hT (RV_arc hv)
 have hc:=RV_arc_cap hv hm hβ
 have : l.cap - off = cap:=by omega
 rw [this] at e1
 simp [Builtin.cap_,e1,run_und (elt_out he),goInt]
theorem run_bound {w : World} {k : IntKind} {i : Int} {y : Nat} {cd : BoundsCode} (h0 : 0 ≤ i) (h1 : i ≤ y) : (Instr.sliceBound (.int k i) y cd).run P w = .ok i.toNat w:=by
 simp [Instr.sliceBound,asIntOf,h0,h1]
theorem run_bounds {w : World} {isS : Bool} {len cap : Nat} {lo hi : Option Operand} {a : Act} {c : Cx} {l h : Int} (hlo : bnd ev 0 lo = some l) (hhi : bnd ev len hi = some h) (r1 : ∀ x ∈ lo,RV c (ev x) (a.eval x)) (r2 : ∀ x ∈ hi,RV c (ev x) (a.eval x))
  (h0 : 0 ≤ l) (h1 : l ≤ h) (h2 : h ≤ cap) : (Instr.sliceBounds isS len cap (lo.map a.eval) (hi.map a.eval) none).run P w = .ok (l.toNat,h.toNat,cap) w:=by
 have f : ∀ (d r : Int) (y : Option Operand),bnd ev d y = some r → (∀ x ∈ y,RV c (ev x) (a.eval x)) → (y = none ∧ r = d) ∨ ∃ x k,y = some x ∧ a.eval x = .int k r:=by
  intro d r y hy hr
  cases y with
  | none=>simp [bnd] at hy; exact .inl ⟨rfl,hy.symm⟩
  | some x =>
   simp only [bnd] at hy
   have hv:=hr x rfl
   split at hy
   ·rename_i k n hx
    simp at hy; subst hy
    rw [hx] at hv
    exact .inr ⟨x,k,rfl,hv⟩
   ·cases hy
 have b2 : ∀ k cd,(Instr.sliceBound (.int k h) cap cd).run P w = .ok h.toNat w:=fun k cd=>run_bound (by omega) h2
 have b1 : ∀ k cd,(Instr.sliceBound (.int k l) h.toNat cd).run P w = .ok l.toNat w:=fun k cd=>run_bound h0 (by omega)
 rcases f _ _ _ hlo r1 with ⟨rfl,q1⟩ | ⟨x1,k1,rfl,q1⟩ <;> rcases f _ _ _ hhi r2 with ⟨rfl,q2⟩ | ⟨x2,k2,rfl,q2⟩
 ·subst q1; subst q2; simp [Instr.sliceBounds]
 ·subst q1; simp [Instr.sliceBounds,q2,b2]
 ·have hl : h.toNat = len:=by omega
  have b1' : ∀ k cd,(Instr.sliceBound (.int k l) len cd).run P w = .ok l.toNat w:=fun k cd=>by rw [← hl]; exact b1 k cd
  simp [Instr.sliceBounds,q1,b1',hl]
 ·simp [Instr.sliceBounds,q1,q2,b1,b2]
theorem q_slice_str {t : TypeId} {x : Operand} {lo hi : Option Operand} {s : ByteArray} {l h : Int} (ho : o.op = .slice t x lo hi none) (ht : isStrT P t = true) (hx' : ev x = .str s) (hlo : bnd ev 0 lo = some l) (hhi : bnd ev s.size hi = some h)
  (h0 : 0 ≤ l) (h1 : l ≤ h) (h2 : h ≤ s.size) (hk : K (.str (s.extract l.toNat h.toNat)) []) : Goal P o ev mT base K:=by
 refine ⟨_,_,QS.value fun w Zo m β a M A hx=>?_,hk⟩
 rw [ho] at hx
 have hv:=hx x (by simp [Op.operands])
 rw [hx'] at hv
 have ht' : P.underlying t = some .string:=by
  unfold isStrT at ht
  split at ht
  ·assumption
  ·cases ht
 have hb:=run_bounds (P:=P) (w:=w) (isS:=false) (len:=s.size) (cap:=s.size) (a:=a) (c:=cx w Zo m β) hlo hhi (fun y hy=>hx y (by simp [Op.operands]; exact .inr (.inl hy))) (fun y hy=>hx y (by simp [Op.operands]; exact .inr (.inr hy))) h0 h1 h2
 refine ⟨_,?_,rfl⟩
 simp only [execOp,ho]
 rw [show a.eval x = .string s from hv]
 simp [Instr.sliceAt,Instr.slice,run_und ht',hb]
theorem run_slice_at {w : World} {t e : TypeId} {sz : Nat} {ag : Bool} {A : Option Addr} {len cp : Nat} {lo hi : Option Operand} {a : Act} {c : Cx} {l h : Int} (he : elt P t = some e) (hl : lay P e = some (sz,ag)) (hlo : bnd ev 0 lo = some l) (hhi : bnd ev len hi = some h) (r1 : ∀ x ∈ lo,RV c (ev x) (a.eval x)) (r2 : ∀ x ∈ hi,RV c (ev x) (a.eval x))
  (h0 : 0 ≤ l) (h1 : l ≤ h) (h2 : h ≤ cp) : (Instr.sliceAt t (.slice A len cp) (lo.map a.eval) (hi.map a.eval) none).run P w = .ok (.slice (if cp = l.toNat then A else A.map (·.add (l.toNat * sz))) (h.toNat - l.toNat) (cp - l.toNat)) w:=by
 have hb:=run_bounds (P:=P) (w:=w) (isS:=true) (len:=len) (cap:=cp) (a:=a) (c:=c) hlo hhi r1 r2 h0 h1 h2
 simp [Instr.sliceAt,Instr.slice,run_und (elt_out he),hb,run_sz hl]
theorem q_slice_sl {t e : TypeId} {sz : Nat} {ag : Bool} {x : Operand} {lo hi : Option Operand} {xs : List (List V)} {l h : Int} (ho : o.op = .slice t x lo hi none) (he : elt P t = some e) (hl : lay P e = some (sz,ag)) (hx' : ev x = .sl sz xs) (hlo : bnd ev 0 lo = some l) (hhi : bnd ev xs.length hi = some h)
  (h0 : 0 ≤ l) (h1 : l ≤ h) (h2 : h ≤ xs.length) (hk : K (.sl sz ((xs.take h.toNat).drop l.toNat)) []) : Goal P o ev mT base K:=by
 refine ⟨_,_,QS.value fun w Zo m β a M A hx=>?_,hk⟩
 rw [ho] at hx
 have hv:=hx x (by simp [Op.operands])
 rw [hx'] at hv
 obtain ⟨A',cp,e1,g1,g2,g3⟩:=hv
 have hb:=run_slice_at (P:=P) (w:=w) (A:=A') (cp:=cp) (a:=a) (c:=cx w Zo m β) he hl hlo hhi (fun y hy=>hx y (by simp [Op.operands]; exact .inr (.inl hy))) (fun y hy=>hx y (by simp [Op.operands]; exact .inr (.inr hy))) h0 h1 (by omega)
 have hlen : ((xs.take h.toNat).drop l.toNat).length = h.toNat - l.toNat:=by rw [ZO,ZE]; omega
 refine ⟨_,by simp only [execOp,ho]; rw [e1,ZP,Sem.run_bind,hb]; rfl,?_⟩
 refine ⟨_,_,by rw [hlen],by rw [hlen]; omega,by rw [hlen]; omega,?_⟩
 by_cases hlt : l < h
 ·rcases g3 with rfl | ⟨b,p,rfl,hf,hr⟩
  ·simp at h2; omega
  ·refine .inr ⟨b,p + l.toNat * sz,?_,hf,?_⟩
   ·rw [if_neg (by omega),Zw,add_plain]
   ·exact (hr.take _).drop _
 ·refine .inl (Zj (by rw [hlen]; omega))
theorem q_slice_ar {t e : TypeId} {sz : Nat} {ag : Bool} {x : Operand} {lo hi : Option Operand} {q off len : Nat} {lv : Bool} {xs : List (List V)} {l h : Int} (ho : o.op = .slice t x lo hi none) (he : elt P t = some e) (hl : lay P e = some (sz,ag)) (hx' : ev x = .ar q off len) (hT : mT[q]? = some (.arr lv sz xs)) (hlo : bnd ev 0 lo = some l) (hhi : bnd ev len hi = some h)
  (h0 : 0 ≤ l) (h1 : l ≤ h) (h2 : h ≤ len) (hk : K (.ar q (off + l.toNat) (h.toNat - l.toNat)) []) : Goal P o ev mT base K:=by
 refine ⟨_,_,QS.value fun w Zo m β a M A hx=>?_,hk⟩
 rw [ho] at hx
 have hv:=hx x (by simp [Op.operands])
 rw [hx'] at hv
 obtain ⟨hm,lc,hβ,⟨g1,g2,g3,g4⟩,g5,A',e1,g6⟩:=at_ar M A hT hv
 have hb:=run_slice_at (P:=P) (w:=w) (A:=A') (cp:=lc.cap - off) (a:=a) (c:=cx w Zo m β) he hl hlo hhi (fun y hy=>hx y (by simp [Op.operands]; exact .inr (.inl hy))) (fun y hy=>hx y (by simp [Op.operands]; exact .inr (.inr hy))) h0 h1 (by omega)
 refine ⟨_,by simp only [execOp,ho]; rw [e1,ZP,Sem.run_bind,hb]; rfl,?_⟩
 unfold RV
 rw [show (cx w Zo m β).m = m from rfl,show (cx w Zo m β).β = β from rfl,hm,hβ]
 refine ⟨by omega,_,by rw [Nat.sub_sub],fun hlt=>?_⟩
 rw [if_neg (by omega),g6 (by omega),Zw,add_plain,Zf]
theorem q_slice_arc {t e : TypeId} {sz : Nat} {ag : Bool} {x : Operand} {lo hi : Option Operand} {q off len cap : Nat} {lv : Bool} {xs : List (List V)} {l h : Int} (ho : o.op = .slice t x lo hi none) (he : elt P t = some e) (hl : lay P e = some (sz,ag)) (hx' : ev x = .arc q off len cap) (hT : mT[q]? = some (.arr lv sz xs)) (hlo : bnd ev 0 lo = some l) (hhi : bnd ev len hi = some h)
  (h0 : 0 ≤ l) (h1 : l ≤ h) (h2 : h ≤ cap) (h3 : off + h.toNat ≤ xs.length) (hk : K (.arc q (off + l.toNat) (h.toNat - l.toNat) (cap - l.toNat)) []) : Goal P o ev mT base K:=by
 refine ⟨_,_,QS.value fun w Zo m β a M A hx=>?_,hk⟩
 rw [ho] at hx
 have hv:=hx x (by simp [Op.operands])
 rw [hx'] at hv
 obtain ⟨hm,lc,hβ,⟨g1,g2,g3,g4⟩,g5,A',e1,g6⟩:=at_ar M A hT (RV_arc hv)
 have hc:=RV_arc_cap hv hm hβ
 have hc' : lc.cap - off = cap:=by omega
 rw [hc'] at e1
 have hb:=run_slice_at (P:=P) (w:=w) (A:=A') (cp:=cap) (a:=a) (c:=cx w Zo m β) he hl hlo hhi (fun y hy=>hx y (by simp [Op.operands]; exact .inr (.inl hy))) (fun y hy=>hx y (by simp [Op.operands]; exact .inr (.inr hy))) h0 h1 h2
 refine ⟨_,by simp only [execOp,ho]; rw [e1,ZP,Sem.run_bind,hb]; rfl,?_⟩
 unfold RV
 rw [show (cx w Zo m β).m = m from rfl,show (cx w Zo m β).β = β from rfl,hm,hβ]
 refine ⟨by omega,by omega,_,rfl,fun hlt=>?_⟩
 rw [if_neg (by omega),g6 (by omega),Zw,add_plain,Zf]
theorem q_slice3 {t e : TypeId} {sz : Nat} {ag : Bool} {x xl xh xm : Operand} {q off len cap : Nat} {lv : Bool} {xs : List (List V)} {kl kh km : IntKind} {l h k : Int} (ho : o.op = .slice t x (some xl) (some xh) (some xm)) (he : elt P t = some e) (hl : lay P e = some (sz,ag)) (hx' : ev x = .arc q off len cap) (hT : mT[q]? = some (.arr lv sz xs))
  (h1 : ev xl = .int kl l) (h2 : ev xh = .int kh h) (h3 : ev xm = .int km k) (g0 : 0 ≤ l) (g1 : l ≤ h) (g2 : h ≤ k) (g3 : k ≤ cap) (hk : K .junk []) : Goal P o ev mT base K:=by
 refine ⟨_,_,QS.value fun w Zo m β a M A hx=>?_,hk⟩
 rw [ho] at hx
 have hv:=hx x (by simp [Op.operands])
 rw [hx'] at hv
 have v1:=hx xl (by simp [Op.operands])
 have v2:=hx xh (by simp [Op.operands])
 have v3:=hx xm (by simp [Op.operands])
 rw [h1] at v1
 rw [h2] at v2
 rw [h3] at v3
 have v1 : a.eval xl = .int kl l:=v1
 have v2 : a.eval xh = .int kh h:=v2
 have v3 : a.eval xm = .int km k:=v3
 obtain ⟨hm,lc,hβ,⟨b1,b2,b3,b4⟩,b5,A',e1,b6⟩:=at_ar M A hT (RV_arc hv)
 have hc:=RV_arc_cap hv hm hβ
 have hc' : lc.cap - off = cap:=by omega
 rw [hc'] at e1
 have c3 : ∀ cd,(Instr.sliceBound (.int km k) cap cd).run P w = .ok k.toNat w:=fun cd=>run_bound (by omega) g3
 have c2 : ∀ cd,(Instr.sliceBound (.int kh h) k.toNat cd).run P w = .ok h.toNat w:=fun cd=>run_bound (by omega) (by omega)
 have c1 : ∀ cd,(Instr.sliceBound (.int kl l) h.toNat cd).run P w = .ok l.toNat w:=fun cd=>run_bound g0 (by omega)
 have hr : (Instr.sliceAt t (a.eval x) (some (a.eval xl)) (some (a.eval xh)) (some (a.eval xm))).run P w = .ok (.slice (if k.toNat = l.toNat then A' else A'.map (·.add (l.toNat * sz))) (h.toNat - l.toNat) (k.toNat - l.toNat)) w:=by
  rw [e1,v1,v2,v3]
  simp [Instr.sliceAt,Instr.slice,run_und (elt_out he),Instr.sliceBounds,c1,c2,c3,run_sz hl]
 exact ⟨_,by simp only [execOp,ho,Zw]; rw [Sem.run_bind,hr]; rfl,trivial⟩
theorem q_slice_nil {t e : TypeId} {sz : Nat} {ag : Bool} {x : Operand} {lo hi : Option Operand} (ho : o.op = .slice t x lo hi none) (he : elt P t = some e) (hl : lay P e = some (sz,ag)) (hx' : ev x = .nil) (hlo : bnd ev 0 lo = some 0) (hhi : bnd ev 0 hi = some 0) (hk : K .nil []) : Goal P o ev mT base K:=by
 refine ⟨_,_,QS.value fun w Zo m β a M A hx=>?_,hk⟩
 rw [ho] at hx
 have hv:=hx x (by simp [Op.operands])
 rw [hx'] at hv
 have hb:=run_slice_at (P:=P) (w:=w) (A:=none) (len:=0) (cp:=0) (a:=a) (c:=cx w Zo m β) he hl hlo hhi (fun y hy=>hx y (by simp [Op.operands]; exact .inr (.inl hy))) (fun y hy=>hx y (by simp [Op.operands]; exact .inr (.inr hy))) (ZU _) (ZU _) (by simp)
 refine ⟨_,by simp only [execOp,ho]; rw [show a.eval x = .slice none 0 0 from hv,ZP,Sem.run_bind,hb]; rfl,?_⟩
 simp [RV]
theorem q_mm {gt : Bool} {x y : Operand} {ts : Array TypeId} {r : V} (ho : o.op = .call { callee:=.builtin (if gt then .max else .min),args:=#[x,y],argTypes:=ts }) (hm : mm gt (ev x) (ev y) = some r) (hk : K r []) : Goal P o ev mT base K:=by
 refine ⟨_,_,QS.value fun w Zo m β a M A hx=>?_,hk⟩
 rw [ho] at hx
 have hv:=hx x (by simp [Op.operands,Call.operands])
 have hw:=hx y (by simp [Op.operands,Call.operands])
 unfold mm at hm
 split at hm
 ·rename_i k p k' q h1 h2
  simp only [Option.some.injEq] at hm; subst hm
  rw [h1] at hv
  rw [h2] at hw
  refine ⟨_,?_,rfl⟩
  cases gt
  ·simp [execOp,ho,resolve,invoke,builtin,Builtin.min_,Builtin.min2,show a.eval x = .int k p from hv,show a.eval y = .int k' q from hw]
  ·simp [execOp,ho,resolve,invoke,builtin,Builtin.max_,Builtin.max2,show a.eval x = .int k p from hv,show a.eval y = .int k' q from hw]
 ·cases hm
end
end Go.Pm
end
section
namespace Go.Pm
open Go.RowKit
def cellsV (m : List Ob) : V → Option (List V)
 | .agg cs=>some cs
 | x=>if oneV m x then some [x] else none
def fillG (place : Nat → Option (Nat × Nat)) : List V → List (Nat × List V) → Option (List V)
 | cs,[]=>some cs
 | cs,(i,ys) :: r=>match place i with
   | some (off,n)=>if ys.length = n ∧ off + n ≤ cs.length then fillG place (cs.take off ++ ys ++ cs.drop (off + n)) r else none
   | none=>none
def partsV (m : List Ob) (ev : Operand → V) : List (Nat × Operand) → Option (List (Nat × List V))
 | []=>some []
 | (i,x) :: r=>match cellsV m (ev x) with
   | some ys=>match partsV m ev r with
     | some l=>some ((i,ys) :: l)
     | none=>none
   | none=>none
def placeS (P : Program) (t : TypeId) (i : Nat) : Option (Nat × Nat):=match fld P t i with
 | some (off,n,_)=>some (off,n)
 | none=>none
def fldsOK (P : Program) (t : TypeId) : Bool:=match P.underlying t with
 | some (.struct fs)=>fs.all fun f=>(lay P f.type).isSome
 | _=>false
theorem list_set_run {α : Type} : ∀ (ys : List α) (k : Nat) (cs : List α),k + ys.length ≤ cs.length →
  (ys.zipIdx k).foldl (fun cs p=>cs.set p.2 p.1) cs = cs.take k ++ ys ++ cs.drop (k + ys.length)
 | [],k,cs,h=>by simp
 | y :: ys,k,cs,h=>by
   simp only [List.zipIdx_cons,List.foldl_cons]
   rw [list_set_run ys (k + 1) (cs.set k y) (by simp at h ⊢; omega)]
   have hk : k < cs.length:=by simp at h; omega
   have e1 : (cs.set k y).take (k + 1) = cs.take k ++ [y]:=by
    rw [List.take_set,List.take_add_one,Zg hk]
    simp only [Option.toList_some]
    rw [ZD _ _ (by rw [ZE]; exact Nat.min_le_left _ _)]
    simp [Nat.min_eq_left (Nat.le_of_lt hk)]
   have e2 : (cs.set k y).drop (k + 1 + ys.length) = cs.drop (k + (y :: ys).length):=by
    rw [List.drop_set_of_lt (by omega)]
    congr 1
    simp; omega
   rw [e1,e2]
   simp
theorem fold_set (off : Nat) (v cells : Array Value) (h : off + v.size ≤ cells.size) :
  (v.zipIdx.foldl (fun cs (x : Value × Nat)=>cs.setIfInBounds (off + x.2) x.1) cells).toList = cells.toList.take off ++ v.toList ++ cells.toList.drop (off + v.size):=by
 have h1 : ∀ (l : List (Value × Nat)) (cs : Array Value),(l.foldl (fun cs (x : Value × Nat)=>cs.setIfInBounds (off + x.2) x.1) cs).toList = (l.map fun x=>(x.1,off + x.2)).foldl (fun cs p=>cs.set p.2 p.1) cs.toList:=by
  intro l
  induction l with
  | nil=>intro cs; rfl
  | cons x l ih=>intro cs; simp only [List.foldl_cons,ZS]; rw [ih]; simp
 rw [← Array.foldl_toList,h1,Array.toList_zipIdx]
 have h2 : (v.toList.zipIdx.map fun x=>(x.1,off + x.2)) = v.toList.zipIdx off:=by
  have:=List.map_snd_add_zipIdx_eq_zipIdx (l:=v.toList) (k:=0) (n:=off)
  rw [Zy] at this
  rw [← this]
  apply Yd
  intro x _
  simp [Prod.map,Zn]
 rw [h2,list_set_run _ _ _ (by simpa using h)]
 simp
theorem fill_sound {c : Cx} {place : Nat → Option (Nat × Nat)} : ∀ (ps : List (Nat × List V)) (qs : List (Nat × Value)) (cs : List V) (cells : Array Value) (cs' : List V),RVs c cs cells.toList →
  ps.length = qs.length → (∀ (i : Nat) p q,ps[i]? = some p → qs[i]? = some q → p.1 = q.1 ∧ RVs c p.2 q.2.cells.toList) → fillG place cs ps = some cs' → ∃ cells',Instr.fill place cells qs = some cells' ∧ RVs c cs' cells'.toList
 | [],[],cs,cells,cs',h,_,_,hf=>by
   simp only [fillG,Option.some.injEq] at hf; subst hf
   exact ⟨cells,rfl,h⟩
 | (i,ys) :: ps,(j,v) :: qs,cs,cells,cs',h,hl,hr,hf=>by
   obtain ⟨e,hy⟩:=hr 0 _ _ rfl rfl
   simp only at e hy; subst e
   simp only [fillG] at hf
   split at hf
   ·rename_i off n hp
    split at hf
    ·rename_i hc
     have hv : v.cells.size = n:=by
      have:=hy.length
      rw [← hc.1,← this]; simp
     have hsz : cells.size = cs.length:=by
      have:=h.length
      rw [← this]; simp
     simp only [Instr.fill,hp]
     rw [if_neg (by simp [hv,hsz]; omega)]
     refine fill_sound ps qs _ _ cs' ?_ (by simpa using hl) (fun k p q h1 h2=>hr (k + 1) p q (by simpa using h1) (by simpa using h2)) hf
     have:=fold_set off v.cells cells (by omega)
     rw [this,hv]
     exact ((h.take off).append hy).append (h.drop (off + n))
    ·cases hf
   ·cases hf
section
variable {P : Program} {o : Oper} {ev : Operand → V} {mT : List Ob} {base : Nat} {K : V → List Ob → Prop}
theorem cellsV_sound {w : World} {Zo : Nat → Prop} {m : List Ob} {β : List Lc} (M : Mem w Zo m β) (A : Agree mT m) {x : V} {v : Value} {ys : List V} (h : cellsV mT x = some ys) (hv : RV (cx w Zo m β) x v) : RVs (cx w Zo m β) ys v.cells.toList:=by
 unfold cellsV at h
 split at h
 ·simp only [Option.some.injEq] at h; subst h
  obtain ⟨us,e,r⟩:=hv
  rw [e]; exact r
 ·split at h
  ·rename_i h1
   simp only [Option.some.injEq] at h; subst h
   rw [cells_one (one_cells M A h1 hv)]
   exact ⟨v,[],rfl,hv,rfl⟩
  ·cases h
theorem partsV_sound {w : World} {Zo : Nat → Prop} {m : List Ob} {β : List Lc} {a : Act} (M : Mem w Zo m β) (A : Agree mT m) : ∀ (l : List (Nat × Operand)) (ps : List (Nat × List V)),partsV mT ev l = some ps → (∀ p ∈ l,RV (cx w Zo m β) (ev p.2) (a.eval p.2)) →
  ps.length = (l.map fun p=>(p.1,a.eval p.2)).length ∧ ∀ (i : Nat) p q,ps[i]? = some p → (l.map fun p=>(p.1,a.eval p.2))[i]? = some q → p.1 = q.1 ∧ RVs (cx w Zo m β) p.2 q.2.cells.toList
 | [],ps,h,hx=>by
   simp only [partsV,Option.some.injEq] at h; subst h
   exact ⟨rfl,fun i p q h=>by simp at h⟩
 | (i,x) :: l,ps,h,hx=>by
   simp only [partsV] at h
   split at h
   ·rename_i ys hy
    split at h
    ·rename_i ps' hp
     simp only [Option.some.injEq] at h; subst h
     obtain ⟨h1,h2⟩:=partsV_sound M A l ps' hp (fun p hp=>hx p (Zr _ hp))
     refine ⟨by simpa using h1,fun j p q hj hq=>?_⟩
     cases j with
     | zero =>
      simp at hj hq; subst hj; subst hq
      exact ⟨rfl,cellsV_sound M A hy (hx (i,x) Zq)⟩
     | succ j=>exact h2 j p q (by simpa using hj) (by simpa using hq)
    ·cases h
   ·cases h
theorem run_places {w : World} : ∀ (l : List Field),(∀ f ∈ l,(lay P f.type).isSome = true) → (l.mapM (fun f=>do pure (f.offset,← sizeOf f.type)) : Sem (List (Nat × Nat))).run P w = .ok (l.map fun f=>(f.offset,((lay P f.type).getD (0,false)).1)) w
 | [],_=>by simp
 | f :: l,h=>by
   obtain ⟨⟨n,b⟩,hn⟩:=Zv.1 (h f Zq)
   have ih:=run_places (w:=w) l (fun g hg=>h g (Zr _ hg))
   rw [List.mapM_cons]
   simp only [Sem.run_bind,run_sz hn,Result.andThen_ok,Sem.run_pure,ih]
   simp [hn]
theorem zer_out {t : TypeId} {zs : List V} (h : zer P t = some zs) : ∃ i z,P.info? t = some i ∧ i.zero = some z ∧ zs = z.cells.toList.map ofVal1:=by
 unfold zer at h
 split at h
 ·rename_i i hi
  split at h
  ·rename_i z hz
   simp only [Option.some.injEq] at h
   exact ⟨i,z,hi,hz,h.symm⟩
  ·cases h
 ·cases h
theorem run_zero {w : World} {t : TypeId} {i : TypeInfo} {z : Value} (hi : P.info? t = some i) (hz : i.zero = some z) : (zeroValue t).run P w = .ok z w:=by
 simp [zeroValue,typeInfo,hi,hz]
theorem q_build {t : TypeId} {parts : Array (Nat × Operand)} {zs cs : List V} {ps : List (Nat × List V)} (ho : o.op = .build t parts) (hz : zer P t = some zs) (hok : fldsOK P t = true) (hp : partsV mT ev parts.toList = some ps) (hf : fillG (placeS P t) zs ps = some cs) (h : K (.agg cs) []) : Goal P o ev mT base K:=by
 refine ⟨_,_,QS.value fun w Zo m β a M A hx=>?_,h⟩
 rw [ho] at hx
 obtain ⟨i,z,hi,hz',rfl⟩:=zer_out hz
 unfold fldsOK at hok
 split at hok
 ·rename_i fs hfs
  have hok' : ∀ f ∈ fs.toList,(lay P f.type).isSome = true:=by
   intro f hf
   rw [Array.all_eq_true'] at hok
   exact hok f (by simpa using hf)
  obtain ⟨g1,g2⟩:=partsV_sound (a:=a) M A parts.toList ps hp (fun p hp=>hx p.2 (by simp only [Op.operands]; simpa using ⟨p.1,by simpa using hp⟩))
  have hpl : placeS P t = ((fs.toList.map fun f=>(f.offset,((lay P f.type).getD (0,false)).1)).toArray[·]?):=by
   funext j
   unfold placeS fld
   rw [hfs]
   simp only [List.getElem?_toArray,Zz,Yc]
   cases hj : fs[j]? with
   | none=>rfl
   | some f =>
    have hm : f ∈ fs.toList:=by simpa using Array.mem_of_getElem? hj
    obtain ⟨⟨n,b⟩,hn⟩:=Zv.1 (hok' f hm)
    simp [hn]
  rw [hpl] at hf
  obtain ⟨cells',k1,k2⟩:=fill_sound ps _ _ z.cells cs (RVs_ofVal1 _ _) g1 g2 hf
  refine ⟨.agg cells',?_,cells',rfl,k2⟩
  have hmap : (parts.map fun (i,x)=>(i,a.eval x)).toList = parts.toList.map fun p=>(p.1,a.eval p.2):=by simp
  simp only [execOp,ho,Instr.build,Sem.run_bind,run_zero hi hz',run_und hfs,Result.andThen_ok,Sem.run_pure]
  rw [Array.mapM_eq_mapM_toList]
  simp only [Sem.run_map,run_places fs.toList hok',Result.andThen_ok,hmap,k1]
  rfl
 ·cases hok
theorem q_newarr {e : TypeId} {n sz : Nat} {xs : List (List V)} (hs : 0 < sz) (hl : ∀ x ∈ xs,x.length = sz) (hn : xs.length = n) (h : ∀ (w : World) (Zo : Nat → Prop) (m : List Ob) (β : List Lc) (a : Act),Mem w Zo m β → Agree mT m → (∀ x ∈ o.op.operands,RV (cx w Zo m β) (ev x) (a.eval x)) →
  ∃ (us : Array Value) (cap : Nat) (fr : Nat × Nat) (w1 : World),(execOp a.eval o).run P w = .ok (.value (.slice (some ⟨w.heap.size,0,none⟩) n cap)) (w1.alloc (.cells us e fr)) ∧ Grow w w1 ∧ w1.heap.size = w.heap.size ∧ n ≤ cap ∧ cap < 2 ^ 63 ∧ us.size = cap * sz ∧ NoFr (us.size + tlS sz) fr ∧ RVs (cx w Zo m β) xs.flatten (us.toList.take (n * sz)))
  (hk : K (.ar base 0 n) [.arr true sz xs]) : Goal P o ev mT base K:=by
 refine ⟨_,_,QS.new1 fun w Zo m β a M A hx=>?_,hk⟩
 obtain ⟨us,cap,fr,w1,h1,hG,hw1,h2,h3,h4,h5,h6⟩:=h w Zo m β a M A hx
 refine ⟨_,_,⟨w.heap.size,cap⟩,h1,hG.trans (Grow.alloc w1 _),fun b hb=>?_,?_⟩
 ·simp only [Ob.blk] at hb
  split at hb
  ·cases hb
  ·simp at hb; omega
 intro c' hle hw hm hβ hob
 refine ⟨⟨by show xs.length ≤ cap; omega,h3,hs,.inr ⟨us,e,fr,by rw [hw,← hw1]; exact heap_new w1 _,h4,h5,?_,.inl rfl⟩⟩,?_⟩
 ·refine RR.of hl (h6.mono hle) fun j u hj=>?_
  show c'.w.cell? ⟨w.heap.size,0 + j,none⟩ = _
  rw [hw,← hw1,cell_new,Zc]
  rw [ZA] at hj
  split at hj
  ·simpa using hj
  ·cases hj
 ·unfold RV
  rw [hob,hβ]
  exact ⟨by omega,_,rfl,fun _=>by simp⟩
theorem flatten_len {α : Type} {sz : Nat} : ∀ {xs : List (List α)},(∀ x ∈ xs,x.length = sz) → xs.flatten.length = xs.length * sz
 | [],_=>by simp
 | x :: xs,h=>by
   rw [ZL,ZK,h x Zq,flatten_len fun y hy=>h y (Zr _ hy),ZC,Zf,Zm,Zn]
theorem fillG_row {sz : Nat} : ∀ (ys : List (List V)) (k : Nat) (cs : List V),(∀ y ∈ ys,y.length = sz) → (k + ys.length) * sz ≤ cs.length →
  fillG (fun i=>some (i * sz,sz)) cs ((ys.zipIdx k).map fun p=>(p.2,p.1)) = some (cs.take (k * sz) ++ ys.flatten ++ cs.drop ((k + ys.length) * sz))
 | [],k,cs,_,h=>by simp [fillG]
 | y :: ys,k,cs,hl,h=>by
   have hy:=hl y Zq
   have hk : k * sz + sz ≤ cs.length:=by
    rw [ZC] at h
    have : (k + 1) * sz ≤ (k + (ys.length + 1)) * sz:=ZF _ (by omega)
    rw [Zf,Zm] at this
    omega
   simp only [List.zipIdx_cons,ZS,fillG]
   rw [if_pos ⟨hy,hk⟩]
   have hlen : (cs.take (k * sz) ++ y ++ cs.drop (k * sz + sz)).length = cs.length:=by
    simp [hy]; omega
   rw [fillG_row ys (k + 1) _ (fun z hz=>hl z (Zr _ hz)) (by rw [hlen,show k + 1 + ys.length = k + (y :: ys).length by simp; omega]; exact h)]
   congr 1
   have e1 : (cs.take (k * sz) ++ y ++ cs.drop (k * sz + sz)).take ((k + 1) * sz) = cs.take (k * sz) ++ y:=by
    rw [Zf,Zm]
    rw [Ye (by simp [hy]; omega)]
    rw [ZV (by simp [hy]; omega)]
   have e2 : (cs.take (k * sz) ++ y ++ cs.drop (k * sz + sz)).drop ((k + 1 + ys.length) * sz) = cs.drop ((k + (y :: ys).length) * sz):=by
    have h1 : (cs.take (k * sz) ++ y).length = k * sz + sz:=by simp [hy]; omega
    have h2 : (k + 1 + ys.length) * sz = (k * sz + sz) + ys.length * sz:=by rw [Zf,Zf,Zm]
    rw [h2,← h1,List.drop_append,List.drop_of_length_le (by omega),List.nil_append,ZN,List.drop_drop]
    congr 1
    rw [ZC,Zf,Zf,Zm]
    omega
   rw [e1,e2]
   simp
def rowV (m : List Ob) (ev : Operand → V) (sz : Nat) : Nat → List (Nat × Operand) → Option (List (List V))
 | _,[]=>some []
 | k,(i,x) :: r=>if i = k then match cellsV m (ev x) with
   | some ys=>if ys.length = sz then match rowV m ev sz (k + 1) r with
     | some l=>some (ys :: l)
     | none=>none
    else none
   | none=>none
  else none
theorem rowV_parts {sz : Nat} : ∀ (l : List (Nat × Operand)) (k : Nat) (xs : List (List V)),rowV mT ev sz k l = some xs → partsV mT ev l = some ((xs.zipIdx k).map fun p=>(p.2,p.1)) ∧ (∀ x ∈ xs,x.length = sz) ∧ xs.length = l.length
 | [],k,xs,h=>by
   simp only [rowV,Option.some.injEq] at h; subst h
   exact ⟨rfl,by simp,rfl⟩
 | (i,x) :: r,k,xs,h=>by
   simp only [rowV] at h
   split at h
   ·rename_i hk; subst hk
    split at h
    ·rename_i ys hy
     split at h
     ·rename_i hl
      split at h
      ·rename_i l hr
       simp only [Option.some.injEq] at h; subst h
       obtain ⟨h1,h2,h3⟩:=rowV_parts r (i + 1) l hr
       refine ⟨by simp [partsV,hy,h1],?_,by simp [h3]⟩
       intro z hz
       rcases ZB.1 hz with rfl | hz
       ·exact hl
       ·exact h2 z hz
      ·cases h
     ·cases h
    ·cases h
   ·cases h
theorem q_buildSlice {t e : TypeId} {len sz : Nat} {ag : Bool} {parts : Array (Nat × Operand)} {zs : List V} {xs : List (List V)} (ho : o.op = .buildSlice t len parts) (he : elt P t = some e) (hl : lay P e = some (sz,ag)) (hs : 0 < sz) (hz : zer P e = some zs) (hr : rowV mT ev sz 0 parts.toList = some xs) (hn : xs.length = len) (hb : len * sz ≤ 2 ^ 24) (h : K (.ar base 0 len) [.arr true sz xs]) : Goal P o ev mT base K:=by
 obtain ⟨g1,g2,g3⟩:=rowV_parts parts.toList 0 xs hr
 refine q_newarr (e:=e) hs g2 hn (fun w Zo m β a M A hx=>?_) h
 rw [ho] at hx
 obtain ⟨i,z,hi,hz',rfl⟩:=zer_out hz
 obtain ⟨p1,p2⟩:=partsV_sound (a:=a) M A parts.toList _ g1 (fun p hp=>hx p.2 (by simp only [Op.operands]; simpa using ⟨p.1,by simpa using hp⟩))
 let Z : Array Value:=if len * sz = 0 then #[] else z.cells
 let C : Array Value:=(ZW (len * sz)).map (Z[· % Z.size]!)
 have hC : C.size = len * sz:=by simp [C]
 have hfill:=fillG_row (sz:=sz) xs 0 (Za C.toList.length .junk) g2 (by simp [hC,hn])
 obtain ⟨cells',k1,k2⟩:=fill_sound (c:=cx w Zo m β) _ _ _ C _ (RVs.junk _ C.toList) p1 p2 hfill
 have hk2 : RVs (cx w Zo m β) xs.flatten cells'.toList:=by
  simpa [hC,hn] using k2
 have hsz : cells'.size = len * sz:=by
  have:=k2.length
  have h2:=hk2.length
  have h3 : xs.flatten.length = len * sz:=by rw [← hn]; exact flatten_len g2
  rw [h3] at h2
  simpa using h2
 have hmap : (parts.map fun (i,x)=>(i,a.eval x)).toList = parts.toList.map fun p=>(p.1,a.eval p.2):=by simp
 refine ⟨cells',len,(0,0),w,?_,Grow.refl w,rfl,Zd _,?_,hsz,NoFr.zero _,?_⟩
 ·simp only [execOp,ho,Instr.buildSlice,Sem.run_bind,run_und (elt_out he),run_sz hl,Result.andThen_ok,Sem.run_pure]
  rw [if_neg (by omega)]
  have hmap2 : (Array.map (fun x : Nat × Operand=>(x.fst,a.eval x.snd)) parts).toList = parts.toList.map fun p=>(p.1,a.eval p.2):=by simp
  by_cases h0 : len * sz = 0
  ·have hCe : C = (ZW (len * sz)).map fun x=>(#[] : Array Value)[x % (#[] : Array Value).size]!:=by simp only [C,Z,if_pos h0]
   rw [hCe] at k1
   rw [if_pos h0]
   simp only [Sem.run_bind,Sem.run_pure,Result.andThen_ok,hmap2,k1,newRow,run_newObj]
   rfl
  ·have hCe : C = (ZW (len * sz)).map fun x=>z.cells[x % z.cells.size]!:=by simp only [C,Z,if_neg h0]
   rw [hCe] at k1
   rw [if_neg h0]
   simp only [Sem.run_bind,Sem.run_pure,Result.andThen_ok,run_zero hi hz',hmap2,k1,newRow,run_newObj]
   rfl
 ·have : len ≤ len * sz:=Nat.le_mul_of_pos_right _ hs
  omega
 ·rw [ZV (by simp [hsz])]
  exact hk2
theorem q_build0 {t e : TypeId} {parts : Array (Nat × Operand)} {zs : List V} {sz : Nat} {ag : Bool} (ho : o.op = .buildSlice t 0 parts) (he : elt P t = some e) (hl : lay P e = some (sz,ag)) (hz : zer P e = some zs) (hp : parts.toList = []) (h : K .e0 []) : Goal P o ev mT base K:=by
 refine ⟨_,_,?_,h⟩
 intro w Zo m β a Q M A hx hh
 have hparts : parts = #[]:=by cases parts; simp_all
 subst hparts
 have hr : (execOp a.eval o).run P w = .ok (.value (.slice (some ⟨w.heap.size,0,none⟩) 0 0)) (w.alloc (.cells #[] e)):=by
  simp only [execOp,ho,Instr.buildSlice,Sem.run_bind,run_und (elt_out he),run_sz hl,Result.andThen_ok,Sem.run_pure]
  rw [if_neg (by omega),if_pos (by omega)]
  simp [newRow,run_newObj,Instr.fill]
  congr 2
  exact Array.eq_empty_of_size_eq_zero (by simp)
 refine wp_value hr ⟨_,β,rfl,Grow.alloc w _,M.grow (Grow.alloc w _),cx_le_grow (Grow.alloc w _),⟨_,rfl⟩,fun b hb=>.inl hb⟩
end
end Go.Pm
end
section
namespace Go.Pm
open Go.RowKit
section
variable {P : Program} {o : Oper} {ev : Operand → V} {mT : List Ob} {base : Nat} {K : V → List Ob → Prop}
theorem RVs_replicate {c : Cx} {zs : List V} {us : List Value} (h : RVs c zs us) : ∀ n,RVs c (Za n zs).flatten (Za n us).flatten
 | 0=>rfl
 | n + 1=>by
   simp only [ZT,ZL]
   exact h.append (RVs_replicate h n)
theorem madeCells_list (z : Array Value) (sz n : Nat) (hz : z.size = sz) (hs : 0 < sz) : (madeCells z (n * sz)).toList = (Za n z.toList).flatten:=by
 apply Yg
 intro j
 have hl : (Za n z.toList).flatten.length = n * sz:=by rw [flatten_len (sz:=sz) (by intro x hx; rw [ZX hx]; simpa using hz)]; simp
 rcases Zk j (n * sz) with hj | hj
 ·have h1 : (madeCells z (n * sz)).toList[j]? = some z[j % z.size]!:=by
   simp [madeCells,hj]
  rw [h1]
  have key : ∀ (n j : Nat),j < n * sz → (Za n z.toList).flatten[j]? = some z[j % z.size]!:=by
   intro n
   induction n with
   | zero=>intro j hj; simp at hj
   | succ n ih =>
    intro j hj
    simp only [ZT,ZL]
    rcases Zk j sz with h | h
    ·rw [Ze (by simpa [hz] using h)]
     rw [hz,Nat.mod_eq_of_lt h]
     have : j < z.size:=by omega
     simp [this]
    ·rw [Zh (by simpa [hz] using h)]
     have hlen : z.toList.length = sz:=by simpa using hz
     rw [hlen,ih (j - sz) (by rw [Zf,Zm] at hj; omega)]
     congr 2
     rw [hz]
     exact (Nat.mod_eq_sub_mod h).symm
  exact (key n j hj).symm
 ·rw [Zu (by simp [madeCells]; omega),Zu (by omega)]
theorem q_makeSlice {t e : TypeId} {sz : Nat} {ag : Bool} {x y : Operand} {zs : List V} {k k' : IntKind} {n : Int} (ho : o.op = .makeSlice t x y) (he : elt P t = some e) (hl : lay P e = some (sz,ag)) (hs : 0 < sz) (hz : zer P e = some zs) (hzs : zs.length = sz) (hx' : ev x = .int k n) (hy' : ev y = .int k' n) (h0 : 0 ≤ n) (hn : n * P.bytesOf e ≤ 2 ^ 47) (hn2 : n ≤ 2 ^ 47)
  (h : K (.ar base 0 n.toNat) [.arr true sz (Za n.toNat zs)]) : Goal P o ev mT base K:=by
 obtain ⟨i,z,hi,hz',rfl⟩:=zer_out hz
 have hsz : z.cells.size = sz:=by simpa using hzs
 refine q_newarr (e:=e) hs (fun x hx=>by rw [ZX hx]; exact hzs) (by simp) (fun w Zo m β a M A hx=>?_) h
 have hv:=hx x (by rw [ho]; simp [Op.operands])
 have hw:=hx y (by rw [ho]; simp [Op.operands])
 rw [hx'] at hv
 rw [hy'] at hw
 obtain ⟨i',d,g1,g2,g3,g4⟩:=lay_info hl
 rw [hi] at g1; cases g1
 have hb : (i.bytes : Int) * n ≤ 281474976710656:=by
  have : P.bytesOf e = i.bytes:=by simp [Program.bytesOf,hi]
  rw [this] at hn
  rw [Int.mul_comm]
  omega
 have hr:=run_make (P:=P) w t e i z (elt_out he) hi hz' k k' n n h0 (ZU _) hb (by omega)
 refine ⟨madeCells z.cells (n.toNat * i.size),n.toNat,(0,0),w,?_,Grow.refl w,rfl,Zd _,by omega,by rw [size_madeCells,g3],NoFr.zero _,?_⟩
 ·simp only [execOp,ho]
  rw [show a.eval x = .int k n from hv,show a.eval y = .int k' n from hw,Sem.run_bind,hr]
  rfl
 ·rw [g3,madeCells_list z.cells sz n.toNat hsz hs]
  rw [ZV (by rw [flatten_len (sz:=sz) (by intro x hx; rw [ZX hx]; simpa using hsz)]; simp)]
  exact RVs_replicate (RVs_ofVal1 _ _) _
theorem q_makeMap {t : TypeId} {r : Option Operand} (ho : o.op = .makeMap t r) (hr : r = none ∨ ∃ k n kt et,r = some (.const (.int k n)) ∧ P.underlying t = some (.map kt et)) (h : K (.map base) [.mp true [] []]) : Goal P o ev mT base K:=by
 refine ⟨_,_,QS.new1 fun w Zo m β a M A hx=>?_,h⟩
 refine ⟨.map (some w.heap.size),w.alloc (.map #[] 0),⟨w.heap.size,0⟩,?_,Grow.alloc w _,fun b hb=>by simp [Ob.blk] at hb; omega,?_⟩
 ·rcases hr with rfl | ⟨k,n,kt,et,rfl,hu⟩
  ·simp [execOp,ho,Instr.makeMap]
  ·simp [execOp,ho,Instr.makeMap,run_und hu,asInt,asIntOf,Act.eval]
 ·intro c' hle hw hm hβ hob
  refine ⟨⟨#[],0,by rw [hw]; exact heap_new w _,rfl,rfl,⟨rfl,fun i e hi=>by simp at hi⟩,.inl rfl⟩,?_⟩
  unfold RV
  rw [hob,hβ]
def elemsV (m : List Ob) : V → Option (List (List V))
 | .sl _ xs=>some xs
 | .nil=>some []
 | .e0=>some []
 | .ar q off len=>match m[q]? with
   | some (.arr _ _ xs)=>some ((xs.drop off).take len)
   | _=>none
 | .arc q off len _=>match m[q]? with
   | some (.arr _ _ xs)=>some ((xs.drop off).take len)
   | _=>none
 | _=>none
def szV (m : List Ob) : V → Option Nat
 | .sl sz _=>some sz
 | .ar q _ _=>match m[q]? with
   | some (.arr _ sz _)=>some sz
   | _=>none
 | .arc q _ _ _=>match m[q]? with
   | some (.arr _ sz _)=>some sz
   | _=>none
 | _=>none
theorem elems_at {w : World} {Zo : Nat → Prop} {m : List Ob} {β : List Lc} (M : Mem w Zo m β) (A : Agree mT m) {x : V} {v : Value} {xs : List (List V)} (h : elemsV mT x = some xs) (hv : RV (cx w Zo m β) x v) :
  ∃ A' cp,v = .slice A' xs.length cp ∧ xs.length ≤ cp ∧ xs.length < 2 ^ 63 ∧ (xs = [] ∨ ∃ sz b p,szV mT x = some sz ∧ A' = some ⟨b,p,none⟩ ∧ RR (cx w Zo m β) sz b p xs):=by
 cases x <;> simp only [elemsV,reduceCtorEq] at h
 case nil =>
  simp only [Option.some.injEq] at h; subst h
  exact ⟨none,0,hv,Zd _,by simp,.inl rfl⟩
 case e0 =>
  simp only [Option.some.injEq] at h; subst h
  obtain ⟨A',e1⟩:=hv
  exact ⟨A',0,e1,Zd _,by simp,.inl rfl⟩
 case sl sz ys =>
  simp only [Option.some.injEq] at h; subst h
  obtain ⟨A',cp,e1,g1,g2,g3⟩:=hv
  refine ⟨A',cp,e1,g1,g2,g3.imp id ?_⟩
  rintro ⟨b,p,rfl,hf,hr⟩
  exact ⟨sz,b,p,rfl,rfl,hr⟩
 case ar q off len =>
  split at h
  ·rename_i lv sz ys hT
   simp only [Option.some.injEq] at h; subst h
   obtain ⟨hm,l,hβ,⟨g1,g2,g3,g4⟩,g5,A',e1,g6⟩:=at_ar M A hT hv
   have hlen : ((ys.drop off).take len).length = len:=by rw [ZE,ZO]; omega
   refine ⟨A',l.cap - off,by rw [hlen]; exact e1,by rw [hlen]; omega,by rw [hlen]; omega,?_⟩
   by_cases h0 : len = 0
   ·exact .inl (Zj (by rw [hlen]; exact h0))
   ·rcases g4 with g4 | ⟨us,e,fr,_,_,_,hrr,_⟩
    ·omega
    ·refine .inr ⟨sz,l.b,off * sz,?_,g6 (by omega),?_⟩
     ·simp [szV,hT]
     ·have:=(hrr.drop off).take len
      rwa [Zc] at this
  ·cases h
 case arc q off len cap =>
  split at h
  ·rename_i lv sz ys hT
   simp only [Option.some.injEq] at h; subst h
   obtain ⟨hm,l,hβ,⟨g1,g2,g3,g4⟩,g5,A',e1,g6⟩:=at_ar M A hT (RV_arc hv)
   have hlen : ((ys.drop off).take len).length = len:=by rw [ZE,ZO]; omega
   refine ⟨A',l.cap - off,by rw [hlen]; exact e1,by rw [hlen]; omega,by rw [hlen]; omega,?_⟩
   by_cases h0 : len = 0
   ·exact .inl (Zj (by rw [hlen]; exact h0))
   ·rcases g4 with g4 | ⟨us,e,fr,_,_,_,hrr,_⟩
    ·omega
    ·refine .inr ⟨sz,l.b,off * sz,?_,g6 (by omega),?_⟩
     ·simp [szV,hT]
     ·have:=(hrr.drop off).take len
      rwa [Zc] at this
  ·cases h
def strOf (ns : List Int) : ByteArray:=ns.foldl (fun r n=>r.push (UInt8.ofNat n.toNat)) ByteArray.empty
theorem RVs_ints {c : Cx} {k : IntKind} : ∀ {ns : List Int} {us : List Value},RVs c (ns.map (V.int k)) us → us = ns.map (Value.int k)
 | [],us,h=>h
 | n :: ns,us,⟨u,us',e,h1,h2⟩=>by rw [e,show u = .int k n from h1,RVs_ints h2]; rfl
theorem q_bytesStr {src dst e : TypeId} {x : Operand} {ns : List Int} (ho : o.op = .convert src dst x) (he : elt P src = some e) (hu : intT P e = some .u8) (hd : isStrT P dst = true) (hx' : elemsV mT (ev x) = some (ns.map fun n=>[.int .u8 n])) (h : K (.str (strOf ns)) []) : Goal P o ev mT base K:=by
 refine ⟨_,_,QS.value fun w Zo m β a M A hx=>?_,h⟩
 have hv:=hx x (by rw [ho]; simp [Op.operands])
 have hd' : P.underlying dst = some .string:=by
  unfold isStrT at hd
  split at hd
  ·assumption
  ·cases hd
 have hu' : P.underlying e = some (.int .u8):=by
  unfold intT at hu
  split at hu
  ·rename_i k2 h2; simp at hu; subst hu; exact h2
  ·cases hu
 obtain ⟨A',cp,e1,g1,g2,g3⟩:=elems_at M A hx' hv
 refine ⟨.string (strOf ns),?_,rfl⟩
 simp only [execOp,ho]
 rw [e1,Sem.run_bind,run_convert_bytes_string w src dst e A' _ cp (elt_out he) hu' hd']
 have hfl : ∀ ns : List Int,(ns.map fun n=>[V.int .u8 n]).flatten = ns.map (V.int .u8):=by
  intro ns
  induction ns with
  | nil=>rfl
  | cons n ns ih=>simp [ih]
 have key : (Conv.bytesToString (.slice A' (ns.map fun n=>[V.int .u8 n]).length cp)).run P w = .ok (.string (strOf ns)) w:=by
  cases A' with
  | none =>
   rcases g3 with g3 | ⟨sz,b,p,_,g3,_⟩
   ·have : ns = []:=by simpa using g3
    subst this
    rfl
   ·cases g3
  | some ad =>
   refine run_bytesToString w ad _ cp ns ?_
   rcases g3 with g3 | ⟨sz,b,p,_,g3,hr⟩
   ·have : ns = []:=by simpa using g3
    subst this
    rfl
   ·cases g3
    obtain ⟨us,k1,k2,k3⟩:=hr.list
    rw [hfl] at k1
    have:=RVs_ints k1
    subst this
    have h2:=run_loadCells_list (P:=P) w ⟨b,p,none⟩ (ns.map (Value.int .u8)) (fun j v hj=>by rw [add_plain]; exact k3 j v hj)
    simpa using h2
 rw [key]
 rfl
end
def Contract (P : Program) (f : FuncId) (args : List V) (r : V) (mr : List Ob) : Prop :=
 ∀ (w : World) (Zo : Nat → Prop) (us : List Value),(∀ b,Zo b → b < w.heap.size) → RVs (cx w Zo [] []) args us →
  Calls P f us.toArray w (fun e w'=>∃ v β,e = .returned v ∧ Grow w w' ∧ Mem w' Zo mr β ∧ RV (cx w' Zo mr β) r v ∧ ∀ b,liveAt mr β b → w.heap.size ≤ b)
def Ob.pure : Ob → Prop
 | .box _ cs=>Refs (fun _=>False) cs
 | .arr _ _ xs=>Refss (fun _=>False) xs
 | .mp _ ks vs=>Refs (fun _=>False) ks ∧ Refs (fun _=>False) vs
 | _=>True
theorem pure_tr {w : World} {Zo Zo' : Nat → Prop} {m m' : List Ob} {β β' : List Lc} (hz : ∀ b,(cx w Zo m β).fz b → (cx w Zo' m' β').fz b) : Tr (cx w Zo m β) (cx w Zo' m' β') (fun o=>o) (fun _=>False) :=
 ⟨fun b hb=>⟨hz b hb,rfl⟩,fun _ h=>h.elim⟩
theorem RVs.pure {w : World} {Zo Zo' : Nat → Prop} {m m' : List Ob} {β β' : List Lc} (hz : ∀ b,(cx w Zo m β).fz b → (cx w Zo' m' β').fz b) {xs : List V} {us : List Value} (hp : Refs (fun _=>False) xs) (h : RVs (cx w Zo m β) xs us) : RVs (cx w Zo' m' β') xs us:=by
 have:=RVs.tr (pure_tr hz) xs us hp h
 rwa [rens_pure xs hp] at this
def fillsL : List Lc → Nat → List Lc → List Lc
 | b,_,[]=>b
 | b,p,x :: xs=>fillsL (b.set p x) (p + 1) xs
theorem fillsL_length : ∀ (xs b : List Lc) (p : Nat),(fillsL b p xs).length = b.length
 | [],_,_=>rfl
 | x :: xs,b,p=>by simp [fillsL,fillsL_length xs]
theorem fills_get : ∀ (xs m : List Ob) (p q : Nat),p + xs.length ≤ m.length → (fills m p xs)[q]? = if p ≤ q ∧ q < p + xs.length then xs[q - p]? else m[q]?
 | [],m,p,q,_=>by
   rw [if_neg (fun h=>by have:=h.2; simp at this; omega),fills]
 | x :: xs,m,p,q,h=>by
   have h' : p + (xs.length + 1) ≤ m.length:=by simpa using h
   simp only [fills]
   rw [fills_get xs _ (p + 1) q (by simp; omega)]
   by_cases e : q = p
   ·subst e
    rw [if_neg (by omega),if_pos (by simp),Zi (by omega)]
    simp
   ·by_cases h1 : p + 1 ≤ q ∧ q < p + 1 + xs.length
    ·rw [if_pos h1,if_pos (by simp; omega)]
     obtain ⟨d,rfl⟩ : ∃ d,q = p + 1 + d:=⟨q - (p + 1),by omega⟩
     rw [show p + 1 + d - (p + 1) = d by omega,show p + 1 + d - p = d + 1 by omega,ZJ]
    ·rw [if_neg h1,if_neg (by simp; omega),Zl (fun q=>e q.symm)]
theorem fillsL_get : ∀ (xs m : List Lc) (p q : Nat),p + xs.length ≤ m.length → (fillsL m p xs)[q]? = if p ≤ q ∧ q < p + xs.length then xs[q - p]? else m[q]?
 | [],m,p,q,_=>by
   rw [if_neg (fun h=>by have:=h.2; simp at this; omega),fillsL]
 | x :: xs,m,p,q,h=>by
   have h' : p + (xs.length + 1) ≤ m.length:=by simpa using h
   simp only [fillsL]
   rw [fillsL_get xs _ (p + 1) q (by simp; omega)]
   by_cases e : q = p
   ·subst e
    rw [if_neg (by omega),if_pos (by simp),Zi (by omega)]
    simp
   ·by_cases h1 : p + 1 ≤ q ∧ q < p + 1 + xs.length
    ·rw [if_pos h1,if_pos (by simp; omega)]
     obtain ⟨d,rfl⟩ : ∃ d,q = p + 1 + d:=⟨q - (p + 1),by omega⟩
     rw [show p + 1 + d - (p + 1) = d by omega,show p + 1 + d - p = d + 1 by omega,ZJ]
    ·rw [if_neg h1,if_neg (by simp; omega),Zl (fun q=>e q.symm)]
def Ob.still : Ob → Ob
 | .box _ cs=>.box false cs
 | .arr _ sz xs=>.arr false sz xs
 | .mp _ ks vs=>.mp false ks vs
 | ob=>ob
mutual
def conv (m : List Ob) : V → V
 | .ar q off len=>match m[q]? with
   | some (.arr false sz xs)=>.sl sz ((xs.drop off).take len)
   | _=>.ar q off len
 | .ptr q off=>match m[q]? with
   | some (.box false cs)=>.fptr cs off
   | _=>.ptr q off
 | .eptr q i off=>match m[q]? with
   | some (.arr false sz xs)=>if i < xs.length then .sptr sz xs i off else .junk
   | _=>.eptr q i off
 | .map q=>match m[q]? with
   | some (.mp false ks vs)=>.fmap ks vs
   | _=>.map q
 | .agg cs=>.agg (convs m cs)
 | .tup cs=>.tup (convs m cs)
 | .arc _ _ _ _=>.junk
 | .fn f fs cs=>.fn f (convs m fs) (convs m cs)
 | .junk=>.junk
 | .int k n=>.int k n
 | .bool b=>.bool b
 | .str s=>.str s
 | .nil=>.nil
 | .e0=>.e0
 | .np=>.np
 | .sl sz xs=>.sl sz xs
 | .sptr sz xs i off=>.sptr sz xs i off
 | .fptr cs off=>.fptr cs off
 | .fmap ks vs=>.fmap ks vs
def convs (m : List Ob) : List V → List V
 | []=>[]
 | x :: xs=>conv m x :: convs m xs
end
def convR (m : List Ob) (x : V) : V:=conv (m.map Ob.still) x
def convRs (m : List Ob) (xs : List V) : List V:=convs (m.map Ob.still) xs
mutual
def Flat : V → Prop
 | .sl _ xs=>xs = []
 | .sptr _ _ _ _=>False
 | .fptr _ _=>False
 | .fmap _ _=>False
 | .fn _ fs cs=>Flats fs ∧ Flats cs
 | .agg cs=>Flats cs
 | .tup cs=>Flats cs
 | _=>True
def Flats : List V → Prop
 | []=>True
 | x :: xs=>Flat x ∧ Flats xs
end
def Flatss : List (List V) → Prop
 | []=>True
 | x :: xs=>Flats x ∧ Flatss xs
def Ob.flat : Ob → Prop
 | .box lv cs=>lv = true ∧ Flats cs
 | .arr lv _ xs=>lv = true ∧ Flatss xs
 | .mp lv ks vs=>lv = true ∧ Flats ks ∧ Flats vs
 | _=>True
section
variable {w : World} {Zo Zo' : Nat → Prop} {m : List Ob} {β : List Lc}
mutual
theorem RV.flat : ∀ (x : V) (v : Value),Flat x → RV (cx w Zo m β) x v → RV (cx w Zo' m β) x v
 | .sl sz xs,v,hf,h=>by
   have hf : xs = []:=hf
   subst hf
   obtain ⟨A,cp,e,h1,h2,_⟩:=h
   exact ⟨A,cp,e,h1,h2,.inl rfl⟩
 | .sptr sz xs i off,v,hf,h=>hf.elim
 | .fptr cs off,v,hf,h=>hf.elim
 | .fmap ks vs,v,hf,h=>hf.elim
 | .fn f fs cs,v,hf,⟨us,vs,e,h1,h2⟩=>⟨us,vs,e,RVs.flat fs us.toList hf.1 h1,RVs.flat cs vs.toList hf.2 h2⟩
 | .agg cs,v,hf,⟨us,e,h⟩=>⟨us,e,RVs.flat cs us.toList hf h⟩
 | .tup cs,v,hf,⟨us,e,h⟩=>⟨us,e,RVs.flat cs us.toList hf h⟩
 | .ar q off len,v,hf,h=>h
 | .arc q off len cap,v,hf,h=>h
 | .ptr q off,v,hf,h=>h
 | .eptr q i off,v,hf,h=>h
 | .map q,v,hf,h=>h
 | .junk,v,hf,h=>trivial
 | .int k n,v,hf,h=>h
 | .bool b,v,hf,h=>h
 | .str s,v,hf,h=>h
 | .nil,v,hf,h=>h
 | .e0,v,hf,h=>h
 | .np,v,hf,h=>h
theorem RVs.flat : ∀ (xs : List V) (us : List Value),Flats xs → RVs (cx w Zo m β) xs us → RVs (cx w Zo' m β) xs us
 | [],us,_,h=>h
 | x :: xs,us,hf,⟨u,us',e,h1,h2⟩=>⟨u,us',e,RV.flat x u hf.1 h1,RVs.flat xs us' hf.2 h2⟩
end
theorem RC.flat {b : Nat} : ∀ (xs : List V) (o : Nat),Flats xs → RC (cx w Zo m β) b o xs → RC (cx w Zo' m β) b o xs
 | [],_,_,_=>trivial
 | x :: xs,o,hf,⟨⟨u,e,h1⟩,h2⟩=>⟨⟨u,e,RV.flat x u hf.1 h1⟩,RC.flat xs (o + 1) hf.2 h2⟩
theorem RR.flat {sz b : Nat} : ∀ (xs : List (List V)) (o : Nat),Flatss xs → RR (cx w Zo m β) sz b o xs → RR (cx w Zo' m β) sz b o xs
 | [],_,_,_=>trivial
 | x :: xs,o,hf,⟨h0,h1,h2⟩=>⟨h0,RC.flat x o hf.1 h1,RR.flat xs (o + sz) hf.2 h2⟩
theorem Mem.flatZ (M : Mem w Zo m β) (hf : ∀ ob ∈ m,ob.flat) (ho : ∀ b,liveAt m β b → ¬ Zo' b) (hz : ∀ b,Zo' b → b < w.heap.size) : Mem w Zo' m β:=by
 refine ⟨M.len,fun o ob l h1 h2=>?_,M.sep,ho,hz⟩
 have hfl:=hf ob (Yh h1)
 have hok:=M.ok o ob l h1 h2
 cases ob with
 | hole=>trivial
 | dead=>trivial
 | box lv cs =>
  obtain ⟨us,e,fr,k1,k2,k3,k4,k5⟩:=hok
  exact ⟨us,e,fr,k1,k2,k3,k4.flat _ _ hfl.2,.inl hfl.1⟩
 | arr lv sz xs =>
  obtain ⟨k1,k2,k3,k4⟩:=hok
  refine ⟨k1,k2,k3,k4.imp id ?_⟩
  rintro ⟨us,e,fr,q1,q2,q3,q4,q5⟩
  exact ⟨us,e,fr,q1,q2,q3,q4.flat _ _ hfl.2,.inl hfl.1⟩
 | mp lv ks vs =>
  obtain ⟨es,n,k1,k2,k3,kb,k4⟩:=hok
  exact ⟨es,n,k1,RVs.flat _ _ hfl.2.1 k2,RVs.flat _ _ hfl.2.2 k3,kb,.inl hfl.1⟩
end
end Go.Pm
end
section
namespace Go.Pm
open Go.RowKit
def VLe (x y : V) : Prop:=∀ (c : Cx) (v : Value),RV c x v → RV c y v
def VLes (xs ys : List V) : Prop:=∀ (c : Cx) (us : List Value),RVs c xs us → RVs c ys us
theorem VLes.refl (xs : List V) : VLes xs xs:=fun _ _ h=>h
theorem obLe_some {m : List Ob} {β : List Lc} {m' : List Ob} {β' : List Lc} {o o' : Nat} (h1 : ∀ ob,m[o]? = some ob → ob ≠ .hole → m'[o']? = some ob) (h2 : ∀ l,β[o]? = some l → β'[o']? = some l ∨ m[o]? = some .hole) : obLe m[o]? β[o]? m'[o']? β'[o']?:=by
 cases hm : m[o]? with
 | none=>trivial
 | some ob =>
  cases ob with
  | hole=>cases β[o]? <;> trivial
  | dead=>exact h1 _ hm (by simp)
  | box lv cs =>
   cases hb : β[o]? with
   | none=>trivial
   | some l =>
    rcases h2 l hb with h | h
    ·exact .inr ⟨_,_,_,h1 _ hm (by simp),h,rfl⟩
    ·rw [hm] at h; cases h
  | arr lv sz xs =>
   cases hb : β[o]? with
   | none=>trivial
   | some l =>
    rcases h2 l hb with h | h
    ·exact .inr ⟨_,_,h1 _ hm (by simp),h,Zd _⟩
    ·rw [hm] at h; cases h
  | mp lv ks vs =>
   cases hb : β[o]? with
   | none=>trivial
   | some l =>
    rcases h2 l hb with h | h
    ·exact .inr ⟨_,_,_,_,h1 _ hm (by simp),h,rfl⟩
    ·rw [hm] at h; cases h
theorem OK.tr {c c' : Cx} {ρ : Nat → Nat} {ok : Nat → Prop} (h : Tr c c' ρ ok) {l : Lc} {ob : Ob} (hw : c'.w.heap[l.b]? = c.w.heap[l.b]?) (hp : ob.pure) (hok : ∀ o,False → ok o) (k : OK c l ob) : OK c' l ob:=by
 cases ob with
 | hole=>trivial
 | dead=>trivial
 | box lv cs =>
  obtain ⟨us,e,fr,h1,h2,h3,h4,h5⟩:=k
  have h6:=RC.tr h l.b hw cs 0 (Refs.mono (fun o q=>hok o q) cs hp) h4
  rw [rens_pure cs hp] at h6
  exact ⟨us,e,fr,hw.trans h1,h2,h3,h6,h5.imp id fun q=>(h.fz _ q).1⟩
 | arr lv sz xs =>
  obtain ⟨h1,h2,h3,h4⟩:=k
  refine ⟨h1,h2,h3,h4.imp id ?_⟩
  rintro ⟨us,e,fr,g1,g2,g3,g4,g5⟩
  have h6:=RR.tr h sz l.b hw xs 0 (Refss.mono (fun o q=>hok o q) xs hp) g4
  rw [renss_pure xs hp] at h6
  exact ⟨us,e,fr,hw.trans g1,g2,g3,h6,g5.imp id fun q=>(h.fz _ q).1⟩
 | mp lv ks vs =>
  obtain ⟨es,n,h1,h2,h3,hb,h4⟩:=k
  have h6:=RVs.tr h ks _ (Refs.mono (fun o q=>hok o q) ks hp.1) h2
  have h7:=RVs.tr h vs _ (Refs.mono (fun o q=>hok o q) vs hp.2) h3
  rw [rens_pure ks hp.1] at h6
  rw [rens_pure vs hp.2] at h7
  exact ⟨es,n,hw.trans h1,h6,h7,hb,h4.imp id fun q=>(h.fz _ q).1⟩
section
variable {w w' : World} {Zo : Nat → Prop} {m mr : List Ob} {β βr : List Lc} {base : Nat}
theorem Mem.join (M : Mem w Zo m β) (G : Grow w w') (M' : Mem w' (fun b=>Zo b ∨ liveAt m β b) mr βr) (hn : ∀ b,liveAt mr βr b → w.heap.size ≤ b) (hp : ∀ ob ∈ mr,ob.pure) (hb : base + mr.length ≤ m.length) (hh : ∀ j,j < mr.length → m[base + j]? = some .hole) :
  Mem w' Zo (fills m base mr) (fillsL β base βr) ∧ (cx w Zo m β).le (cx w' Zo (fills m base mr) (fillsL β base βr)) ∧
   Tr (cx w' (fun b=>Zo b ∨ liveAt m β b) mr βr) (cx w' Zo (fills m base mr) (fillsL β base βr)) (fun o=>base + o) (fun _=>True) ∧ (∀ b,liveAt (fills m base mr) (fillsL β base βr) b → liveAt m β b ∨ w.heap.size ≤ b):=by
 have hL:=M'.len
 have gm : ∀ q,(fills m base mr)[q]? = if base ≤ q ∧ q < base + mr.length then mr[q - base]? else m[q]?:=fun q=>fills_get mr m base q hb
 have gβ : ∀ q,(fillsL β base βr)[q]? = if base ≤ q ∧ q < base + mr.length then βr[q - base]? else β[q]?:=fun q=>by
  rw [fillsL_get βr β base q (by rw [M.len,hL]; exact hb),hL]
 have gin : ∀ q,base ≤ q ∧ q < base + mr.length → m[q]? = some .hole:=fun q hq=>by
  have:=hh (q - base) (by omega)
  rwa [show base + (q - base) = q by omega] at this
 have glive : ∀ q ob l b,(fills m base mr)[q]? = some ob → (fillsL β base βr)[q]? = some l → ob.blk l = some b →
   (¬ (base ≤ q ∧ q < base + mr.length) ∧ m[q]? = some ob ∧ β[q]? = some l ∧ b < w.heap.size) ∨ (base ≤ q ∧ q < base + mr.length ∧ mr[q - base]? = some ob ∧ βr[q - base]? = some l ∧ w.heap.size ≤ b):=by
  intro q ob l b h1 h2 h3
  rw [gm] at h1
  rw [gβ] at h2
  by_cases hq : base ≤ q ∧ q < base + mr.length
  ·rw [if_pos hq] at h1 h2
   exact .inr ⟨hq.1,hq.2,h1,h2,hn b ⟨_,_,_,h1,h2,h3⟩⟩
  ·rw [if_neg hq] at h1 h2
   exact .inl ⟨hq,h1,h2,M.live_lt ⟨_,_,_,h1,h2,h3⟩⟩
 have hlive : ∀ b,liveAt (fills m base mr) (fillsL β base βr) b → liveAt m β b ∨ (liveAt mr βr b ∧ w.heap.size ≤ b):=by
  rintro b ⟨q,ob,l,h1,h2,h3⟩
  rcases glive q ob l b h1 h2 h3 with ⟨_,a1,a2,_⟩ | ⟨_,_,a1,a2,a3⟩
  ·exact .inl ⟨q,ob,l,a1,a2,h3⟩
  ·exact .inr ⟨⟨_,ob,l,a1,a2,h3⟩,a3⟩
 have hle : (cx w Zo m β).le (cx w' Zo (fills m base mr) (fillsL β base βr)):=by
  refine ⟨fun b hf=>⟨⟨Zt hf.1 G.size,?_⟩,G.block b hf.1⟩,fun q _=>?_⟩
  ·rintro (hz | hz)
   ·exact hf.2 (.inl hz)
   ·rcases hlive b hz with h | ⟨_,h⟩
    ·exact hf.2 (.inr h)
    ·have h2 : b < w.heap.size:=hf.1
     omega
  ·show obLe m[q]? β[q]? (fills m base mr)[q]? (fillsL β base βr)[q]?
   refine obLe_some (fun ob h1 h2=>?_) (fun l h1=>?_)
   ·rw [gm,if_neg (fun hq=>h2 (by rw [gin q hq] at h1; cases h1; rfl))]
    exact h1
   ·by_cases hq : base ≤ q ∧ q < base + mr.length
    ·exact .inr (gin q hq)
    ·rw [gβ,if_neg hq]; exact .inl h1
 have htr : Tr (cx w' (fun b=>Zo b ∨ liveAt m β b) mr βr) (cx w' Zo (fills m base mr) (fillsL β base βr)) (fun o=>base + o) (fun _=>True):=by
  refine ⟨fun b hf=>⟨⟨hf.1,?_⟩,rfl⟩,fun q _=>?_⟩
  ·rintro (hz | hz)
   ·exact hf.2 (.inl (.inl hz))
   ·rcases hlive b hz with h | ⟨h,_⟩
    ·exact hf.2 (.inl (.inr h))
    ·exact hf.2 (.inr h)
  ·show obLe mr[q]? βr[q]? (fills m base mr)[base + q]? (fillsL β base βr)[base + q]?
   refine obLe_some (fun ob h1 h2=>?_) (fun l h1=>?_)
   ·have:=(Zb.1 h1).1
    rw [gm,if_pos (by omega),ZN]; exact h1
   ·have:=(Zb.1 h1).1
    rw [gβ,if_pos (by omega),ZN]; exact .inl h1
 refine ⟨⟨by rw [fillsL_length,fills_length,M.len],?_,?_,?_,fun b hz=>Zt (M.zlt b hz) G.size⟩,hle,htr,fun b h=>(hlive b h).imp id (·.2)⟩
 ·intro q ob l h1 h2
  by_cases hq : base ≤ q ∧ q < base + mr.length
  ·rw [gm,if_pos hq] at h1
   rw [gβ,if_pos hq] at h2
   exact OK.tr htr rfl (hp ob (Yh h1)) (fun o h=>trivial) (M'.ok _ ob l h1 h2)
  ·have h1':=h1
   have h2':=h2
   rw [gm,if_neg hq] at h1
   rw [gβ,if_neg hq] at h2
   exact (M.ok q ob l h1 h2).mono hle (fun b hb=>G.block b (blk_lt (M.ok q ob l h1 h2) hb).2)
 ·intro q q' ob ob' l l' b h1 h2 h3 h4 h5 h6
  rcases glive q ob l b h1 h3 h5 with ⟨a1,a2,a3,a4⟩ | ⟨a1,a2,a3,a4,a5⟩ <;> rcases glive q' ob' l' b h2 h4 h6 with ⟨b1,b2,b3,b4⟩ | ⟨b1,b2,b3,b4,b5⟩
  ·exact M.sep _ _ _ _ _ _ b a2 b2 a3 b3 h5 h6
  ·omega
  ·omega
  ·have:=M'.sep _ _ _ _ _ _ b a3 b3 a4 b4 h5 h6
   omega
 ·intro b hb hz
  rcases hlive b hb with h | ⟨_,h⟩
  ·exact M.out b h hz
  ·have:=M.zlt b hz
   omega
end
section
variable {w : World} {Zo : Nat → Prop} {mT m : List Ob} {β : List Lc}
theorem fz0 {b : Nat} (h1 : b < w.heap.size) (h2 : ¬ Zo b) : (cx w Zo [] []).fz b:=by
 refine ⟨h1,?_⟩
 rintro (hz | ⟨q,ob,l,hq,_⟩)
 ·exact h2 hz
 ·simp at hq
theorem fz_all {b : Nat} (h : (cx w Zo m β).fz b) : (cx w Zo [] []).fz b:=fz0 h.1 fun hz=>h.2 (.inl hz)
theorem tr0 : Tr (cx w Zo m β) (cx w Zo [] []) (fun o=>o) (fun _=>False):=pure_tr fun b=>fz_all
theorem RV.pure0 {x : V} {v : Value} (hp : Ref (fun _=>False) x) (h : RV (cx w Zo m β) x v) : RV (cx w Zo [] []) x v:=by
 have:=RV.tr tr0 x v hp h
 rwa [V.ren_pure x hp] at this
mutual
theorem convZ (M : Mem w Zo m β) (A : Agree mT m) : ∀ (x : V) (v : Value),Ref (fun _=>False) (convR mT x) → RV (cx w Zo m β) x v → RV (cx w Zo [] []) (convR mT x) v
 | .ar q off len,v,hp,h=>by
   unfold convR conv at hp ⊢
   rw [Zz] at hp ⊢
   cases hT : mT[q]? with
   | none=>rw [hT] at hp; exact hp.elim
   | some ob =>
    rw [hT] at hp
    cases ob with
    | arr lv sz xs =>
     simp only [Zw,Ob.still] at hp ⊢
     obtain ⟨hm,l,hl,⟨g1,g2,g3,g4⟩,hle,A',e,hA⟩:=at_ar M A hT h
     have hlen : ((xs.drop off).take len).length = len:=by simp; omega
     refine ⟨A',l.cap - off,by rw [hlen]; exact e,by rw [hlen]; omega,by rw [hlen]; omega,?_⟩
     by_cases h0 : len = 0
     ·exact .inl (Zj (by rw [hlen,h0]))
     ·refine .inr ?_
      rcases g4 with g4 | ⟨us,e',fr,h1,h2,h3,h4,h5⟩
      ·omega
      ·have hb : (cx w Zo [] []).fz l.b:=by
        refine fz0 (Zx.1 h1).1 fun hz=>?_
        cases lv with
        | true=>exact M.out l.b ⟨q,_,l,hm,hl,by simp [Ob.blk]; omega⟩ hz
        | false=>exact (h5.resolve_left (by simp)).2 (.inl hz)
       refine ⟨l.b,off * sz,hA (by omega),hb,?_⟩
       have:=(h4.drop off).take len
       rw [Zc] at this
       have:=RR.tr (tr0 (w:=w) (Zo:=Zo) (m:=m) (β:=β)) sz l.b rfl _ _ hp this
       rwa [renss_pure _ hp] at this
    | hole=>exact hp.elim
    | dead=>exact hp.elim
    | box lv cs=>exact hp.elim
    | mp lv ks vs=>exact hp.elim
 | .ptr q off,v,hp,h=>by
   unfold convR conv at hp ⊢
   rw [Zz] at hp ⊢
   cases hT : mT[q]? with
   | none=>rw [hT] at hp; exact hp.elim
   | some ob =>
    rw [hT] at hp
    cases ob with
    | box lv cs =>
     simp only [Zw,Ob.still] at hp ⊢
     obtain ⟨hm,l,hl,⟨us,e',fr,h1,h2,h3,h4,h5⟩,e⟩:=at_ptr M A hT h (by simp)
     have hb : (cx w Zo [] []).fz l.b:=by
      refine fz0 (Zx.1 h1).1 fun hz=>?_
      cases lv with
      | true=>exact M.out l.b ⟨q,_,l,hm,hl,rfl⟩ hz
      | false=>exact (h5.resolve_left (by simp)).2 (.inl hz)
     refine ⟨l.b,e,hb,?_⟩
     have:=RC.tr (tr0 (w:=w) (Zo:=Zo) (m:=m) (β:=β)) l.b rfl _ _ hp h4
     rwa [rens_pure _ hp] at this
    | hole=>exact hp.elim
    | dead=>exact hp.elim
    | arr lv sz xs=>exact hp.elim
    | mp lv ks vs=>exact hp.elim
 | .eptr q i off,v,hp,h=>by
   unfold convR conv at hp ⊢
   rw [Zz] at hp ⊢
   cases hT : mT[q]? with
   | none=>rw [hT] at hp; exact hp.elim
   | some ob =>
    rw [hT] at hp
    cases ob with
    | arr lv sz xs =>
     simp only [Zw,Ob.still] at hp ⊢
     split
     ·rename_i hi
      rw [if_pos hi] at hp
      obtain ⟨hm,l,hl,⟨g1,g2,g3,g4⟩,e⟩:=at_eptr M A hT h
      rcases g4 with g4 | ⟨us,e',fr,h1,h2,h3,h4,h5⟩
      ·omega
      ·have hb : (cx w Zo [] []).fz l.b:=by
        refine fz0 (Zx.1 h1).1 fun hz=>?_
        cases lv with
        | true=>exact M.out l.b ⟨q,_,l,hm,hl,by simp [Ob.blk]; omega⟩ hz
        | false=>exact (h5.resolve_left (by simp)).2 (.inl hz)
       refine ⟨l.b,0,by rw [Zc]; exact e,hb,?_⟩
       have:=RR.tr (tr0 (w:=w) (Zo:=Zo) (m:=m) (β:=β)) sz l.b rfl _ _ hp h4
       rwa [renss_pure _ hp] at this
     ·trivial
    | hole=>exact hp.elim
    | dead=>exact hp.elim
    | box lv cs=>exact hp.elim
    | mp lv ks vs=>exact hp.elim
 | .map q,v,hp,h=>by
   unfold convR conv at hp ⊢
   rw [Zz] at hp ⊢
   cases hT : mT[q]? with
   | none=>rw [hT] at hp; exact hp.elim
   | some ob =>
    rw [hT] at hp
    cases ob with
    | mp lv ks vs =>
     simp only [Zw,Ob.still] at hp ⊢
     obtain ⟨hm,l,hl,⟨es,n,h1,h2,h3,_,h5⟩,e⟩:=at_map M A hT h
     have hb : (cx w Zo [] []).fz l.b:=by
      refine fz0 (Zx.1 h1).1 fun hz=>?_
      cases lv with
      | true=>exact M.out l.b ⟨q,_,l,hm,hl,rfl⟩ hz
      | false=>exact (h5.resolve_left (by simp)).2 (.inl hz)
     exact ⟨l.b,es,n,e,hb,h1,RVs.pure (fun b=>fz_all) hp.1 h2,RVs.pure (fun b=>fz_all) hp.2 h3⟩
    | hole=>exact hp.elim
    | dead=>exact hp.elim
    | box lv cs=>exact hp.elim
    | arr lv sz xs=>exact hp.elim
 | .agg cs,v,hp,⟨us,e,h⟩=>⟨us,e,convsZ M A cs us.toList hp h⟩
 | .tup cs,v,hp,⟨us,e,h⟩=>⟨us,e,convsZ M A cs us.toList hp h⟩
 | .fn f fs cs,v,hp,⟨us,vs,e,h1,h2⟩=>⟨us,vs,e,convsZ M A fs us.toList hp.1 h1,convsZ M A cs vs.toList hp.2 h2⟩
 | .junk,v,hp,h=>trivial
 | .int k n,v,hp,h=>h
 | .bool b,v,hp,h=>h
 | .str s,v,hp,h=>h
 | .nil,v,hp,h=>h
 | .e0,v,hp,h=>h
 | .np,v,hp,h=>h
 | .arc _ _ _ _,v,hp,h=>trivial
 | .sl sz xs,v,hp,h=>RV.pure0 (x:=.sl sz xs) hp h
 | .sptr sz xs i off,v,hp,h=>RV.pure0 (x:=.sptr sz xs i off) hp h
 | .fptr cs off,v,hp,h=>RV.pure0 (x:=.fptr cs off) hp h
 | .fmap ks vs,v,hp,h=>RV.pure0 (x:=.fmap ks vs) hp h
theorem convsZ (M : Mem w Zo m β) (A : Agree mT m) : ∀ (xs : List V) (us : List Value),Refs (fun _=>False) (convRs mT xs) → RVs (cx w Zo m β) xs us → RVs (cx w Zo [] []) (convRs mT xs) us
 | [],us,hp,h=>h
 | x :: xs,us,hp,⟨u,us',e,h1,h2⟩=>⟨u,us',e,convZ M A x u hp.1 h1,convsZ M A xs us' hp.2 h2⟩
end
end
section
variable {P : Program} {o : Oper} {ev : Operand → V} {mT : List Ob} {base : Nat} {K : V → List Ob → Prop}
theorem q_call {f : FuncId} {x : Operand} {args : Array Operand} {ts : Array TypeId} {fs cs : List V} {r : V} {mr : List Ob} (ho : o.op = .call { callee := .value x, args := args, argTypes := ts }) (hf : ev x = .fn f fs cs) (hbd : ∃ fn, P.funcs[f]? = some fn ∧ fn.body.isSome = true ∧ (fn.name == "runtime.NumGoroutine") = false)
  {as' : List V} (hle : VLes (fs ++ args.toList.map ev ++ cs) as') (hp : Refs (fun _=>False) as') (hc : Contract P f as' r mr) (hmr : ∀ ob ∈ mr,ob.pure) (h : K (r.ren (fun q=>base + q)) mr) : Goal P o ev mT base K:=by
 refine ⟨_,_,?_,h⟩
 intro w Zo m β a Q M A hx hh
 rw [ho] at hx
 have hv:=hx x (by simp [Op.operands,Call.operands])
 rw [hf] at hv
 obtain ⟨us,vs,e,h1,h2⟩:=hv
 have h3:=run_evs (a:=a) (c:=cx w Zo m β) args.toList (fun y hy=>hx y (by simp [Op.operands,Call.operands]; exact .inr (by simpa using hy)))
 have hall : RVs (cx w Zo m β) (fs ++ args.toList.map ev ++ cs) ((us ++ args.map a.eval) ++ vs).toList:=by
  have:=(h1.append h3).append h2
  simpa using this
 have hzz : ∀ b,(cx w Zo m β).fz b → (cx w (fun b=>Zo b ∨ liveAt m β b) [] []).fz b:=by
  rintro b ⟨g1,g2⟩
  refine ⟨g1,?_⟩
  rintro (hz | ⟨q,ob,l,hq,_⟩)
  ·exact g2 hz
  ·simp at hq
 have hall' : RVs (cx w (fun b=>Zo b ∨ liveAt m β b) [] []) as' ((us ++ args.map a.eval) ++ vs).toList:=RVs.pure hzz hp (hle _ _ hall)
 have hcall:=hc w (fun b=>Zo b ∨ liveAt m β b) _ (fun b hb=>hb.elim (M.zlt b) M.live_lt) hall'
 have hexec : (execOp a.eval o).run P w = .ok (.enter f ((us ++ args.map a.eval) ++ vs)) w:=by
  obtain ⟨fn,g1,g2,g3⟩:=hbd
  have g4 : fn.body.isNone = false:=by cases hb : fn.body <;> simp_all
  simp only [execOp,ho,resolve,e,Deferred.ofValue,Sem.run_bind,Sem.run_pure,Result.andThen_ok,invoke,callFunc,run_program,g1,g3,g4]
  rfl
 unfold Oper.wp
 rw [hexec]
 rw [Oper.upon_enter]
 have hcall2 : Calls P f (us ++ args.map a.eval ++ vs) w (fun e w'=>∃ v β',e = .returned v ∧ Grow w w' ∧ Mem w' (fun b=>Zo b ∨ liveAt m β b) mr β' ∧ RV (cx w' (fun b=>Zo b ∨ liveAt m β b) mr β') r v ∧ ∀ b,liveAt mr β' b → w.heap.size ≤ b):=by
  have : (us ++ args.map a.eval ++ vs).toList.toArray = us ++ args.map a.eval ++ vs:=by simp
  rw [this] at hcall
  exact hcall
 refine hcall2.mono ?_
 rintro e' w' ⟨v,βr,rfl,G,M',hv',hn⟩
 by_cases hmr0 : mr = []
 ·subst hmr0
  have hβr : βr = []:=Zj (by rw [M'.len]; rfl)
  subst hβr
  refine ⟨v,β,rfl,G,M.grow G,cx_le_grow G,?_,fun b hb=>.inl hb⟩
  have:=RV.tr (c:=cx w' (fun b=>Zo b ∨ liveAt m β b) [] []) (c':=cx w' Zo m β) (ρ:=fun q=>base + q) (ok:=fun _=>True) ⟨fun b hf=>⟨⟨hf.1,fun hz=>hf.2 (.inl hz)⟩,rfl⟩,fun q _=>by show obLe ([] : List Ob)[q]? _ _ _; simp [obLe]⟩ r v (Ref.all r) hv'
  exact this
 ·have hlast : base + (mr.length - 1) < m.length:=by
   have:=hh (mr.length - 1) (by have:=ZG.2 hmr0; omega)
   exact (Zb.1 this).1
  have hb : base + mr.length ≤ m.length:=by have:=ZG.2 hmr0; omega
  obtain ⟨J1,J2,J3,J4⟩:=M.join G M' hn hmr hb hh
  exact ⟨v,_,rfl,G,J1,J2,RV.tr J3 r v (Ref.all r) hv',J4⟩
theorem q_callF {f : FuncId} {x : Operand} {args : Array Operand} {ts : Array TypeId} {fs cs : List V} {r : V} {mr : List Ob} (ho : o.op = .call { callee := .value x, args := args, argTypes := ts }) (hf : ev x = .fn f fs cs) (hbd : ∃ fn, P.funcs[f]? = some fn ∧ fn.body.isSome = true ∧ (fn.name == "runtime.NumGoroutine") = false)
  (hp : Refs (fun _=>False) (convRs mT (fs ++ args.toList.map ev ++ cs))) (hc : Contract P f (convRs mT (fs ++ args.toList.map ev ++ cs)) r mr) (hr : Flat r) (hfl : ∀ ob ∈ mr,ob.flat) (hmr : ∀ ob ∈ mr,ob.pure) (h : K (r.ren (fun q=>base + q)) mr) : Goal P o ev mT base K:=by
 refine ⟨_,_,?_,h⟩
 intro w Zo m β a Q M A hx hh
 rw [ho] at hx
 have hv:=hx x (by simp [Op.operands,Call.operands])
 rw [hf] at hv
 obtain ⟨us,vs,e,h1,h2⟩:=hv
 have h3:=run_evs (a:=a) (c:=cx w Zo m β) args.toList (fun y hy=>hx y (by simp [Op.operands,Call.operands]; exact .inr (by simpa using hy)))
 have hall : RVs (cx w Zo m β) (fs ++ args.toList.map ev ++ cs) ((us ++ args.map a.eval) ++ vs).toList:=by
  have:=(h1.append h3).append h2
  simpa using this
 have hall':=convsZ M A _ _ hp hall
 have hcall:=hc w Zo _ M.zlt hall'
 have hexec : (execOp a.eval o).run P w = .ok (.enter f ((us ++ args.map a.eval) ++ vs)) w:=by
  obtain ⟨fn,g1,g2,g3⟩:=hbd
  have g4 : fn.body.isNone = false:=by cases hb : fn.body <;> simp_all
  simp only [execOp,ho,resolve,e,Deferred.ofValue,Sem.run_bind,Sem.run_pure,Result.andThen_ok,invoke,callFunc,run_program,g1,g3,g4]
  rfl
 unfold Oper.wp
 rw [hexec]
 rw [Oper.upon_enter]
 have hcall2 : Calls P f (us ++ args.map a.eval ++ vs) w (fun e w'=>∃ v β',e = .returned v ∧ Grow w w' ∧ Mem w' Zo mr β' ∧ RV (cx w' Zo mr β') r v ∧ ∀ b,liveAt mr β' b → w.heap.size ≤ b):=by
  have : (us ++ args.map a.eval ++ vs).toList.toArray = us ++ args.map a.eval ++ vs:=by simp
  rw [this] at hcall
  exact hcall
 refine hcall2.mono ?_
 rintro e' w' ⟨v,βr,rfl,G,M0,hv0,hn⟩
 have M' : Mem w' (fun b=>Zo b ∨ liveAt m β b) mr βr:=by
  refine M0.flatZ hfl ?_ ?_
  ·rintro b hb (hz | hz)
   ·exact M0.out b hb hz
   ·have:=M.live_lt hz
    have:=hn b hb
    omega
  ·intro b hz
   refine Zt ?_ G.size
   rcases hz with hz | hz
   ·exact M.zlt b hz
   ·exact M.live_lt hz
 have hv' : RV (cx w' (fun b=>Zo b ∨ liveAt m β b) mr βr) r v:=RV.flat r v hr hv0
 by_cases hmr0 : mr = []
 ·subst hmr0
  have hβr : βr = []:=Zj (by rw [M'.len]; rfl)
  subst hβr
  refine ⟨v,β,rfl,G,M.grow G,cx_le_grow G,?_,fun b hb=>.inl hb⟩
  have:=RV.tr (c:=cx w' (fun b=>Zo b ∨ liveAt m β b) [] []) (c':=cx w' Zo m β) (ρ:=fun q=>base + q) (ok:=fun _=>True) ⟨fun b hf=>⟨⟨hf.1,fun hz=>hf.2 (.inl hz)⟩,rfl⟩,fun q _=>by show obLe ([] : List Ob)[q]? _ _ _; simp [obLe]⟩ r v (Ref.all r) hv'
  exact this
 ·have hlast : base + (mr.length - 1) < m.length:=by
   have:=hh (mr.length - 1) (by have:=ZG.2 hmr0; omega)
   exact (Zb.1 this).1
  have hb : base + mr.length ≤ m.length:=by have:=ZG.2 hmr0; omega
  obtain ⟨J1,J2,J3,J4⟩:=M.join G M' hn hmr hb hh
  exact ⟨v,_,rfl,G,J1,J2,RV.tr J3 r v (Ref.all r) hv',J4⟩
end
end Go.Pm
end
section
namespace Go.Pm
open Go.RowKit
structure Same1 (b : Nat) (w w' : World) : Prop where
 os : w'.os = w.os
 tape : w'.tape = w.tape
 output : w'.output = w.output
 size : w'.heap.size = w.heap.size
 block : ∀ i,i ≠ b → w'.heap[i]? = w.heap[i]?
 drawn : w'.drawn = w.drawn
theorem Same1.refl (b : Nat) (w : World) : Same1 b w w:=⟨rfl,rfl,rfl,rfl,fun _ _=>rfl,rfl⟩
theorem Same1.trans {b : Nat} {u v w : World} (h : Same1 b u v) (k : Same1 b v w) : Same1 b u w :=
 ⟨k.os.trans h.os,k.tape.trans h.tape,k.output.trans h.output,k.size.trans h.size,fun i hi=>(k.block i hi).trans (h.block i hi),k.drawn.trans h.drawn⟩
theorem Same1.frame {E : Nat → Prop} {b : Nat} {w0 w w' : World} (h : Frame E w0 w) (k : Same1 b w w') (hb : E b ∨ w0.heap.size ≤ b) : Frame E w0 w':=by
 refine ⟨k.os.trans h.os,k.tape.trans h.tape,k.output.trans h.output,by rw [k.size]; exact h.size,fun i hi hE=>?_,by rw [k.drawn]; exact h.drawn⟩
 rw [k.block i ?_]
 ·exact h.block i hi hE
 ·rintro rfl
  rcases hb with hb | hb
  ·exact hE hb
  ·omega
section
variable {P : Program}
theorem heap_setCell_at (w : World) (b p : Nat) (us : Array Value) (e : TypeId) (fr : Nat × Nat) (v : Value) (h : w.heap[b]? = some (.cells us e fr)) : (w.setCell ⟨b,p,none⟩ v).heap[b]? = some (.cells (us.setIfInBounds p v) e fr):=by
 simp [World.setCell,Array.getElem?_modify,h]
theorem run_storeCells (b p : Nat) (e : TypeId) (fr : Nat × Nat) : ∀ (vs : List Value) (i : Nat) (us : Array Value) (w : World),w.heap[b]? = some (.cells us e fr) → NoFr us.size fr → p + i + vs.length ≤ us.size → (∀ v ∈ vs,v.oneCell' = true) →
  ∃ (w' : World) (us' : Array Value),(storeCells ⟨b,p,none⟩ vs i).run P w = .ok () w' ∧ Same1 b w w' ∧ w'.heap[b]? = some (.cells us' e fr) ∧ us'.size = us.size ∧
   ∀ q,us'[q]? = if p + i ≤ q ∧ q < p + i + vs.length then vs[q - (p + i)]? else us[q]?
 | [],i,us,w,h,_,_,_=>⟨w,us,rfl,Same1.refl b w,h,rfl,fun q=>by rw [if_neg (fun h=>by have:=h.2; simp at this; omega)]⟩
 | v :: vs,i,us,w,h,hf,hl,h1=>by
   have hl' : p + i + (vs.length + 1) ≤ us.size:=by simpa using hl
   have hc : w.cell? ⟨b,p + i,none⟩ = some us[p + i]:=by
    have : p + i < us.size:=by omega
    simp [World.cell?,h,this]
   have hfz : w.frozen? ⟨b,p + i,none⟩ = false:=by
    have:=hf (p + i) (by omega)
    simp only [World.frozen?,h]
    simpa using this
   have hs : (store ((⟨b,p,none⟩ : Addr).add i) v).run P w = .ok () (w.setCell ⟨b,p + i,none⟩ v):=by
    rw [add_plain]
    show (store ⟨b,p + i,none⟩ v).run P w = _
    rw [run_store P w _ v _ (h1 v Zq),hc]
    simp [hfz]
   have h2:=heap_setCell_at w b (p + i) us e fr v h
   obtain ⟨w',us',g1,g2,g3,g4,g5⟩:=run_storeCells b p e fr vs (i + 1) _ _ h2 (by simpa using hf) (by simp; omega) (fun x hx=>h1 x (Zr _ hx))
   have hsame : Same1 b w (w.setCell ⟨b,p + i,none⟩ v):=⟨rfl,rfl,rfl,by simp [World.setCell],fun j hj=>Below.heap_setCell w ⟨b,p + i,none⟩ v j hj,rfl⟩
   refine ⟨w',us',?_,hsame.trans g2,g3,by simpa using g4,fun q=>?_⟩
   ·simp only [storeCells,Sem.run_bind,hs,Result.andThen_ok]
    exact g1
   ·rw [g5 q]
    by_cases e1 : q = p + i
    ·subst e1
     rw [if_neg (by omega),if_pos (by simp)]
     have : p + i < us.size:=by omega
     simp [this]
    ·by_cases e2 : p + (i + 1) ≤ q ∧ q < p + (i + 1) + vs.length
     ·rw [if_pos e2,if_pos (by simp; omega)]
      obtain ⟨d,rfl⟩ : ∃ d,q = p + (i + 1) + d:=⟨q - (p + (i + 1)),by omega⟩
      rw [show p + (i + 1) + d - (p + (i + 1)) = d by omega,show p + (i + 1) + d - (p + i) = d + 1 by omega,ZJ]
     ·rw [if_neg e2,if_neg (by simp; omega)]
      simp only [Array.getElem?_setIfInBounds]
      rw [if_neg (by omega)]
end
theorem RC.of_get {c : Cx} {b : Nat} : ∀ {cs : List V} {o : Nat},(∀ j x,cs[j]? = some x → ∃ u,c.w.cell? ⟨b,o + j,none⟩ = some u ∧ RV c x u) → RC c b o cs
 | [],o,_=>trivial
 | y :: ys,o,h=>by
   refine ⟨h 0 y rfl,RC.of_get fun j x hj=>?_⟩
   have:=h (j + 1) x (by simpa using hj)
   rwa [Zp,Zn 1 j]
theorem RR.of_get {c : Cx} {sz b : Nat} : ∀ {xs : List (List V)} {o : Nat},(∀ i x,xs[i]? = some x → x.length = sz ∧ RC c b (o + i * sz) x) → RR c sz b o xs
 | [],o,_=>trivial
 | y :: ys,o,h=>by
   have h0:=h 0 y rfl
   refine ⟨h0.1,by simpa using h0.2,RR.of_get fun i x hi=>?_⟩
   have:=h (i + 1) x (by simpa using hi)
   rw [Zf,Zm] at this
   rwa [Zp,Zn sz]
theorem cell_at {w : World} {b q : Nat} {us : Array Value} {e : TypeId} {fr : Nat × Nat} (h : w.heap[b]? = some (.cells us e fr)) : w.cell? ⟨b,q,none⟩ = us[q]?:=by
 simp [World.cell?,h]
theorem one_list {w : World} {Zo : Nat → Prop} {m mT : List Ob} {β : List Lc} (M : Mem w Zo m β) (A : Agree mT m) : ∀ {ys : List V} {us : List Value},(∀ y ∈ ys,oneV mT y = true) → RVs (cx w Zo m β) ys us → ∀ u ∈ us,u.oneCell' = true
 | [],us,_,h,u,hu=>by rw [show us = [] from h] at hu; cases hu
 | y :: ys,us,h1,⟨v,us',e,hv,hr⟩,u,hu=>by
   subst e
   rcases ZB.1 hu with rfl | hu
   ·exact one_cells M A (h1 y Zq) hv
   ·exact one_list M A (fun z hz=>h1 z (Zr _ hz)) hr u hu
def over (cs : List V) (off : Nat) (ys : List V) : List V:=cs.take off ++ ys ++ cs.drop (off + ys.length)
theorem over_length {cs : List V} {off : Nat} {ys : List V} (h : off + ys.length ≤ cs.length) : (over cs off ys).length = cs.length:=by
 simp [over]; omega
theorem over_get {cs : List V} {off : Nat} {ys : List V} (h : off + ys.length ≤ cs.length) (j : Nat) : (over cs off ys)[j]? = if off ≤ j ∧ j < off + ys.length then ys[j - off]? else cs[j]?:=by
 unfold over
 rcases Zk j off with h1 | h1
 ·rw [if_neg (by omega),List.append_assoc,Ze (by simp; omega),ZA,if_pos h1]
 ·rcases Zk j (off + ys.length) with h2 | h2
  ·rw [if_pos ⟨h1,h2⟩,Ze (by simp; omega),Zh (by simp; omega)]
   congr 1
   simp; omega
  ·rw [if_neg (by omega),Zh (by simp; omega),Yf]
   congr 1
   simp; omega
section
variable {P : Program} {o : Oper} {st : St} {K : St → Prop}
theorem s_store_box {t : TypeId} {x y : Operand} {q off sz : Nat} {ag : Bool} {cs ys : List V} (ho : o.op = .store t x y) (hl : lay P t = some (sz,ag)) (hx : St.ev st.t x = .ptr q off) (hm : st.m[q]? = some (.box true cs)) (hy : cellsV st.m (St.ev st.t y) = some ys) (h1 : ∀ z ∈ ys,oneV st.m z = true) (hsz : ys.length = sz) (hb : off + ys.length ≤ cs.length)
  (h : K ⟨putT st.t o.dst .junk,st.m.set q (.box true (over cs off ys)),st.g⟩) : OW P o st K:=by
 intro w0 E Zo gh a w Q ⟨β,M,hE,hF,hd,ht,hgh⟩
 have hvx:=ev_RV ht x
 have hvy:=ev_RV ht y
 rw [hx] at hvx
 obtain ⟨_,l,hβ,hOK,e1⟩:=at_ptr M (Agree.refl _) hm hvx (by simp)
 have hys:=cellsV_sound (x:=St.ev st.t y) M (Agree.refl _) hy hvy
 obtain ⟨us,e,fr,k1,k2,k3,k4,k5⟩:=hOK
 have k1 : w.heap[l.b]? = some (.cells us e fr):=k1
 have hvl : (a.eval y).cells.toList.length = ys.length:=hys.length
 obtain ⟨w',us',g1,g2,g3,g4,g5⟩:=run_storeCells (P:=P) l.b off e fr (a.eval y).cells.toList 0 us w k1 k3 (by rw [hvl,k2]; omega) (one_list M (Agree.refl _) h1 hys)
 simp only [Zy] at g5
 have hexec : (execOp a.eval o).run P w = .ok .skip w':=by
  simp only [execOp,ho,Instr.storeAt,e1,Instr.sureAddr,storeVar,Sem.run_bind,Sem.run_pure,Result.andThen_ok,run_sz hl]
  rw [if_neg (by rw [← hsz,← hvl]; simp)]
  rw [g1]
  rfl
 have hT:=M.turn (w':=w') (ob':=.box true (over cs off ys)) hm hβ (.inr ⟨_,_,_,rfl,rfl,rfl⟩) (fun b hb=>hb) g2.size (fun b hlt hne=>g2.block b (fun e=>hne (by rw [e]; rfl)))
  (fun hle _=>by
   refine ⟨us',e,fr,g3,by rw [g4,k2,over_length hb],by rw [g4]; exact k3,RC.of_get fun j z hj=>?_,.inl rfl⟩
   rw [show (cx w' Zo (st.m.set q (.box true (over cs off ys))) β).w = w' from rfl,cell_at g3,Zc,g5 j,hvl]
   rw [over_get hb] at hj
   split at hj
   ·rename_i hj1
    obtain ⟨u,q1,q2⟩:=hys.get _ hj
    rw [if_pos hj1]
    exact ⟨u,q1,q2.mono hle⟩
   ·rename_i hj1
    rw [if_neg hj1]
    obtain ⟨u,q1,q2⟩:=k4.get j hj
    have q1 : w.cell? ⟨l.b,0 + j,none⟩ = some u:=q1
    rw [cell_at k1,Zc] at q1
    exact ⟨u,q1,q2.mono hle⟩)
 obtain ⟨M',hle⟩:=hT
 unfold Oper.wp
 rw [hexec,Oper.upon_skip]
 refine ⟨_,h,β,M',?_,g2.frame hF (hE _ ⟨q,_,l,hm,hβ,rfl⟩),by cases o.dst <;> exact hd,(ht.mono hle).put (x:=.junk) trivial o.dst,hgh.mono hle⟩
 rintro b ⟨p,ob,l',h3,h4,h5⟩
 rcases getElem?_set_some h3 with ⟨e2,e3,_⟩ | ⟨hne,h3⟩
 ·subst e2; subst e3
  rw [hβ] at h4; cases h4
  exact hE b ⟨_,_,l,hm,hβ,h5⟩
 ·exact hE b ⟨p,ob,l',h3,h4,h5⟩
theorem s_store_arr {t : TypeId} {x y : Operand} {q i off sz esz : Nat} {ag : Bool} {xs : List (List V)} {ys : List V} (ho : o.op = .store t x y) (hl : lay P t = some (sz,ag)) (hx : St.ev st.t x = .eptr q i off) (hm : st.m[q]? = some (.arr true esz xs)) (hi : i < xs.length) (hy : cellsV st.m (St.ev st.t y) = some ys) (h1 : ∀ z ∈ ys,oneV st.m z = true) (hsz : ys.length = sz) (hb : off + ys.length ≤ esz)
  (h : K ⟨putT st.t o.dst .junk,st.m.set q (.arr true esz (xs.set i (over (xs.getD i []) off ys))),st.g⟩) : OW P o st K:=by
 intro w0 E Zo gh a w Q ⟨β,M,hE,hF,hd,ht,hgh⟩
 have hvx:=ev_RV ht x
 have hvy:=ev_RV ht y
 rw [hx] at hvx
 obtain ⟨_,l,hβ,hOK,e1⟩:=at_eptr M (Agree.refl _) hm hvx
 have hys:=cellsV_sound (x:=St.ev st.t y) M (Agree.refl _) hy hvy
 obtain ⟨b1,b2,b3,b4⟩:=hOK
 have hcap : l.cap ≠ 0:=by omega
 rcases b4 with b4 | ⟨us,e,fr,k1,k2,k3,k4,k5⟩
 ·exact absurd b4 hcap
 have k1 : w.heap[l.b]? = some (.cells us e fr):=k1
 have hvl : (a.eval y).cells.toList.length = ys.length:=hys.length
 have hbnd : i * esz + off + ys.length ≤ us.size:=by
  have : (i + 1) * esz ≤ l.cap * esz:=ZF _ (by omega)
  rw [Zf,Zm] at this
  omega
 obtain ⟨w',us',g1,g2,g3,g4,g5⟩:=run_storeCells (P:=P) l.b (i * esz + off) e fr (a.eval y).cells.toList 0 us w k1 k3.less (by rw [hvl]; omega) (one_list M (Agree.refl _) h1 hys)
 simp only [Zy] at g5
 have hexec : (execOp a.eval o).run P w = .ok .skip w':=by
  simp only [execOp,ho,Instr.storeAt,e1,Instr.sureAddr,storeVar,Sem.run_bind,Sem.run_pure,Result.andThen_ok,run_sz hl]
  rw [if_neg (by rw [← hsz,← hvl]; simp)]
  rw [g1]
  rfl
 have hxl : (xs.getD i []).length = esz:=by
  rw [Zs,Zg hi]
  exact (k4.get i (Zg hi)).1
 have hblk : ∀ ys',(Ob.arr true esz ys').blk l = some l.b:=fun ys'=>by simp [Ob.blk,hcap]
 have hT:=M.turn (w':=w') (ob':=.arr true esz (xs.set i (over (xs.getD i []) off ys))) hm hβ (.inr ⟨_,_,rfl,rfl,by simp⟩) (fun b hb=>by rw [hblk] at hb ⊢; exact hb) g2.size (fun b hlt hne=>g2.block b (fun e=>hne (by rw [e]; exact hblk _)))
  (fun hle _=>by
   refine ⟨by simpa using b1,b2,b3,.inr ⟨us',e,fr,g3,by rw [g4,k2],by rw [g4]; exact k3,RR.of_get fun j x hj=>?_,.inl rfl⟩⟩
   rcases getElem?_set_some hj with ⟨e2,e3,_⟩ | ⟨hne,hj⟩
   ·subst e2; subst e3
    refine ⟨by rw [over_length (by omega),hxl],RC.of_get fun r z hr=>?_⟩
    rw [show (cx w' Zo (st.m.set q (.arr true esz (xs.set j (over (xs.getD j []) off ys)))) β).w = w' from rfl,cell_at g3,Zc,g5,hvl]
    have hr1 : r < esz:=by
     have:=(Zb.1 hr).1
     rw [over_length (by omega),hxl] at this
     exact this
    rw [over_get (by omega)] at hr
    split at hr
    ·rename_i hj1
     obtain ⟨u,q1,q2⟩:=hys.get _ hr
     rw [if_pos (by omega)]
     exact ⟨u,by rw [show j * esz + r - (j * esz + off) = r - off by omega]; exact q1,q2.mono hle⟩
    ·rename_i hj1
     rw [if_neg (by omega)]
     have h5:=k4.at_ hi
     rw [Zc] at h5
     obtain ⟨u,q1,q2⟩:=h5.get r hr
     have q1 : w.cell? ⟨l.b,j * esz + r,none⟩ = some u:=q1
     rw [cell_at k1] at q1
     exact ⟨u,q1,q2.mono hle⟩
   ·obtain ⟨p1,p2⟩:=k4.get j hj
    refine ⟨p1,RC.of_get fun r z hr=>?_⟩
    have hr1 : r < esz:=by
     have:=(Zb.1 hr).1
     omega
    rw [show (cx w' Zo (st.m.set q (.arr true esz (xs.set i (over (xs.getD i []) off ys)))) β).w = w' from rfl,cell_at g3,Zc,g5,hvl]
    have hapart : ¬ (i * esz + off ≤ j * esz + r ∧ j * esz + r < i * esz + off + ys.length):=by
     intro hh
     rcases Ya j i with h | h | h
     ·have : (j + 1) * esz ≤ i * esz:=ZF _ h
      rw [Zf,Zm] at this
      omega
     ·exact hne h
     ·have : (i + 1) * esz ≤ j * esz:=ZF _ h
      rw [Zf,Zm] at this
      omega
    rw [if_neg hapart]
    rw [Zc] at p2
    obtain ⟨u,q1,q2⟩:=p2.get r hr
    have q1 : w.cell? ⟨l.b,j * esz + r,none⟩ = some u:=q1
    rw [cell_at k1] at q1
    exact ⟨u,q1,q2.mono hle⟩)
 obtain ⟨M',hle⟩:=hT
 unfold Oper.wp
 rw [hexec,Oper.upon_skip]
 refine ⟨_,h,β,M',?_,g2.frame hF (hE _ ⟨q,_,l,hm,hβ,hblk _⟩),by cases o.dst <;> exact hd,(ht.mono hle).put (x:=.junk) trivial o.dst,hgh.mono hle⟩
 rintro b ⟨p,ob,l',h3,h4,h5⟩
 rcases getElem?_set_some h3 with ⟨e2,e3,_⟩ | ⟨hne,h3⟩
 ·subst e2; subst e3
  rw [hβ] at h4; cases h4
  rw [hblk] at h5
  exact hE b ⟨_,_,l,hm,hβ,by rw [hblk]; exact h5⟩
 ·exact hE b ⟨p,ob,l',h3,h4,h5⟩
end
end Go.Pm
end
section
namespace Go.Pm
open Go.RowKit
theorem RV_ar {c : Cx} {o off len sz : Nat} {lv : Bool} {xs : List (List V)} {l : Lc} {v : Value} {A : Option Addr} (hm : c.m[o]? = some (.arr lv sz xs)) (hβ : c.β[o]? = some l) (h1 : off + len ≤ xs.length) (h2 : v = .slice A len (l.cap - off)) (h3 : off < l.cap → A = some ⟨l.b,off * sz,none⟩) : RV c (.ar o off len) v:=by
 unfold RV
 rw [hm,hβ]
 exact ⟨h1,A,h2,h3⟩
section
variable {w : World} {Zo : Nat → Prop} {m : List Ob} {β : List Lc} {ob : Ob} {l : Lc} {q : Nat}
theorem Mem.move (M : Mem w Zo m β) (hm : m[q]? = some ob) (hl : β[q]? = some l) :
  Mem w Zo (m.set q .dead ++ [ob]) (β ++ [l]) ∧ (cx w Zo m β).le (cx w Zo (m.set q .dead ++ [ob]) (β ++ [l])) ∧ (∀ b,liveAt (m.set q .dead ++ [ob]) (β ++ [l]) b → liveAt m β b):=by
 have hq : q < m.length:=(Zb.1 hm).1
 have hlen : (m.set q .dead).length = β.length:=by simp [M.len]
 have g : ∀ (p : Nat) (x : Ob) (r : Lc) (b : Nat),(m.set q .dead ++ [ob])[p]? = some x → (β ++ [l])[p]? = some r → x.blk r = some b → (p ≠ q ∧ p < m.length ∧ m[p]? = some x ∧ β[p]? = some r) ∨ (p = m.length ∧ x = ob ∧ r = l):=by
  intro p x r b h1 h2 h3
  rcases getElem?_append_one _ _ _ _ h1 with h1 | ⟨h1,e1⟩
  ·have hp : p < m.length:=by have:=(Zb.1 h1).1; simpa using this
   rcases getElem?_append_one _ _ _ _ h2 with h2 | ⟨h2,e2⟩
   ·rcases getElem?_set_some h1 with ⟨e3,e4,_⟩ | ⟨hne,h1⟩
    ·subst e4; simp [Ob.blk] at h3
    ·exact .inl ⟨hne,hp,h1,h2⟩
   ·rw [M.len] at h2; omega
  ·rcases getElem?_append_one _ _ _ _ h2 with h2 | ⟨h2,e2⟩
   ·have:=(Zb.1 h2).1
    rw [h1,hlen] at this; omega
   ·exact .inr ⟨by rw [h1]; simp,e1,e2⟩
 have hlive : ∀ b,liveAt (m.set q .dead ++ [ob]) (β ++ [l]) b → liveAt m β b:=by
  rintro b ⟨p,x,r,h1,h2,h3⟩
  rcases g p x r b h1 h2 h3 with ⟨_,_,a1,a2⟩ | ⟨_,rfl,rfl⟩
  ·exact ⟨p,x,r,a1,a2,h3⟩
  ·exact ⟨q,_,_,hm,hl,h3⟩
 have hle : (cx w Zo m β).le (cx w Zo (m.set q .dead ++ [ob]) (β ++ [l])):=by
  refine ⟨fun b hf=>⟨⟨hf.1,fun hz=>hf.2 (hz.imp id (hlive b))⟩,rfl⟩,fun p _=>?_⟩
  show obLe m[p]? β[p]? (m.set q .dead ++ [ob])[p]? (β ++ [l])[p]?
  by_cases e : p = q
  ·subst e
   rw [Ze (by simpa using hq),Zi hq,hm,hl]
   cases ob <;> first | trivial | rfl | exact .inl rfl
  ·rcases Zk p m.length with h | h
   ·rw [Ze (by simpa using h),Zl (fun h=>e h.symm),Ze (by rw [M.len]; exact h)]
    exact obLe_refl _ _
   ·rw [Zu h]
    unfold obLe
    split <;> simp_all
 refine ⟨⟨by simp [M.len],?_,?_,fun b h=>M.out b (hlive b h),M.zlt⟩,hle,hlive⟩
 ·intro p x r h1 h2
  rcases getElem?_append_one _ _ _ _ h1 with h1 | ⟨h1,e1⟩
  ·have hp : p < m.length:=by have:=(Zb.1 h1).1; simpa using this
   rcases getElem?_append_one _ _ _ _ h2 with h2 | ⟨h2,e2⟩
   ·rcases getElem?_set_some h1 with ⟨e3,e4,_⟩ | ⟨hne,h1⟩
    ·subst e4; trivial
    ·exact (M.ok p x r h1 h2).mono hle (fun b hb=>rfl)
   ·rw [M.len] at h2; omega
  ·rcases getElem?_append_one _ _ _ _ h2 with h2 | ⟨h2,e2⟩
   ·have:=(Zb.1 h2).1
    rw [h1,hlen] at this; omega
   ·subst e1; subst e2
    exact (M.ok q _ _ hm hl).mono hle (fun b hb=>rfl)
 ·intro p p' x x' r r' b h1 h2 h3 h4 h5 h6
  rcases g p x r b h1 h3 h5 with ⟨a0,a1,a2,a3⟩ | ⟨a1,rfl,rfl⟩ <;> rcases g p' x' r' b h2 h4 h6 with ⟨b0,b1,b2,b3⟩ | ⟨b1,e1,e2⟩
  ·exact M.sep _ _ _ _ _ _ b a2 b2 a3 b3 h5 h6
  ·subst e1; subst e2
   exact absurd (M.sep _ _ _ _ _ _ b a2 hm a3 hl h5 h6) a0
  ·exact absurd (M.sep _ _ _ _ _ _ b b2 hm b3 hl h6 h5) b0
  ·omega
end
section
variable {P : Program}
theorem run_firstCells {w : World} {sz n : Nat} {A : Option Addr} {cp : Nat} {us : List Value} (hn : us.length = n * sz) (h : n = 0 ∨ ∃ b p,A = some ⟨b,p,none⟩ ∧ ∀ j u,us[j]? = some u → w.cell? ⟨b,p + j,none⟩ = some u) (k : Nat) :
  (Builtin.firstCells sz n (.slice A k cp)).run P w = .ok us.toArray w:=by
 rcases h with rfl | ⟨b,p,rfl,h⟩
 ·have : us = []:=Zj (by simpa using hn)
  subst this
  cases A <;> simp [Builtin.firstCells,loadCells,loadCellsFrom]
 ·have:=run_loadCells_list (P:=P) w ⟨b,p,none⟩ us (fun j v hj=>by rw [add_plain]; exact h j v hj)
  rw [hn] at this
  simpa [Builtin.firstCells] using this
theorem zeroCells_size (z : Array Value) (n : Nat) : (Builtin.zeroCells z n).size = n * z.size:=by simp [Builtin.zeroCells]
def seqT (P : Program) (t : TypeId) : Bool:=match P.underlying t with
 | some (.slice _)=>true
 | some .string=>true
 | _=>false
variable {w : World} {t t' ty e : TypeId} {i : TypeInfo} {z : Value} {base : Option Addr} {n cap k : Nat} {xv : Value} {news olds : Array Value}
theorem run_append_fits {w' : World} (ht : P.underlying t = some (.slice e)) (hi : P.info? e = some i) (he' : seqT P t' = true) (hk : (Builtin.lenOf xv).run P w = .ok k w) (hc : (Builtin.firstCells i.size k xv).run P w = .ok news w) (hfit : n + k ≤ cap)
  (hst : ∀ a,base = some a → (storeCells (a.add (n * i.size)) news.toList).run P w = .ok () w') (hst0 : base = none → w' = w) :
  (Builtin.append_ #[t,t'] ty #[.slice base n cap,xv]).run P w = .ok (.slice base (n + k) cap) w':=by
 unfold seqT at he'
 split at he'
 ·rename_i e2 h2
  cases base with
  | none=>rw [hst0 rfl]; simp [Builtin.append_,run_und ht,run_und h2,sizeOf,typeInfo,hi,hk,hc,hfit]
  | some a=>simp [Builtin.append_,run_und ht,run_und h2,sizeOf,typeInfo,hi,hk,hc,hfit,hst a rfl]
 ·rename_i h2
  cases base with
  | none=>rw [hst0 rfl]; simp [Builtin.append_,run_und ht,run_und h2,sizeOf,typeInfo,hi,hk,hc,hfit]
  | some a=>simp [Builtin.append_,run_und ht,run_und h2,sizeOf,typeInfo,hi,hk,hc,hfit,hst a rfl]
 ·cases he'
theorem run_append_grows (ht : P.underlying t = some (.slice e)) (hi : P.info? e = some i) (hz : i.zero = some z) (he' : seqT P t' = true) (hk : (Builtin.lenOf xv).run P w = .ok k w) (hc : (Builtin.firstCells i.size k xv).run P w.drew = .ok news w.drew) (ho : (Builtin.firstCells i.size n (.slice base n cap)).run P w.drew = .ok olds w.drew) (hfit : cap < n + k)
  (h63 : ((n + k : Nat) : Int) ≤ 9223372036854775807) (h48 : Builtin.nextslicecap (n + k) cap * i.bytes ≤ 281474976710656) :
  (Builtin.append_ #[t,t'] ty #[.slice base n cap,xv]).run P w = .ok (.slice (some ⟨w.heap.size,0,none⟩) (n + k) (grownCap w (n + k) cap e)) (w.drew.alloc (.cells (olds ++ news ++ Builtin.zeroCells z.cells (grownCap w (n + k) cap e - (n + k))) e)):=by
 have hn : ¬ (n + k ≤ cap):=by omega
 have h63' : ¬ (9223372036854775807 < ((n : Int) + (k : Int))):=by omega
 have h48' : ¬ (281474976710656 < Builtin.nextslicecap (n + k) cap * i.bytes):=by omega
 have e1 : ({ w with drawn:=w.drawn + 1 } : World) = w.drew:=rfl
 unfold seqT at he'
 split at he'
 ·rename_i e2 h2
  simp [Builtin.append_,run_und ht,run_und h2,sizeOf,typeInfo,zeroValue,hi,hz,hk,hn,h63',h48',Question.forced,e1,hc,ho,newRow,grownCap]
 ·rename_i h2
  simp [Builtin.append_,run_und ht,run_und h2,sizeOf,typeInfo,zeroValue,hi,hz,hk,hn,h63',h48',Question.forced,e1,hc,ho,newRow,grownCap]
 ·cases he'
end
def Src (P : Program) (mT : List Ob) (sz : Nat) (x : V) (ys : List (List V)) : Prop :=
 ∀ (w : World) (Zo : Nat → Prop) (m : List Ob) (β : List Lc) (v : Value),Mem w Zo m β → Agree mT m → RV (cx w Zo m β) x v →
  ∃ us : List Value,RVs (cx w Zo m β) ys.flatten us ∧ (Builtin.lenOf v).run P w = .ok ys.length w ∧ ∀ w2 : World,w2.heap = w.heap → (Builtin.firstCells sz ys.length v).run P w2 = .ok us.toArray w2
theorem src_elems {P : Program} {mT : List Ob} {sz : Nat} {x : V} {ys : List (List V)} (h : elemsV mT x = some ys) (hl : ∀ y ∈ ys,y.length = sz) : Src P mT sz x ys:=by
 intro w Zo m β v M A hv
 obtain ⟨A',cp,e1,g1,g2,g3⟩:=elems_at M A h hv
 rcases g3 with rfl | ⟨sz',b,p,_,rfl,hr⟩
 ·exact ⟨[],rfl,by rw [e1]; rfl,fun w2 _=>by rw [e1]; exact run_firstCells (by simp) (.inl rfl) _⟩
 ·obtain ⟨us,k1,k2,k3⟩:=hr.list
  refine ⟨us,k1,by rw [e1]; rfl,fun w2 hw=>?_⟩
  rw [e1]
  refine run_firstCells ?_ (.inr ⟨b,p,rfl,fun j u hj=>?_⟩) _
  ·rw [k1.length,flatten_len hl]
  ·have:=k3 j u hj
   simp only [World.cell?,hw]
   exact this
def bytesV (s : ByteArray) : List (List V):=s.data.toList.map fun b=>[.int .u8 b.toNat]
theorem bytesV_len (s : ByteArray) : (bytesV s).length = s.size:=by unfold bytesV; rw [List.length_map]; rfl
theorem bytesV_flat (s : ByteArray) : (bytesV s).flatten = s.data.toList.map fun b=>V.int .u8 b.toNat:=by
 unfold bytesV
 induction s.data.toList with
 | nil=>rfl
 | cons b l ih=>simp [ih]
theorem RVs_bytes {c : Cx} : ∀ l : List UInt8,RVs c (l.map fun b=>V.int .u8 b.toNat) (l.map fun b=>Value.int .u8 b.toNat)
 | []=>rfl
 | b :: l=>⟨_,_,rfl,rfl,RVs_bytes l⟩
theorem q_strBytes {P : Program} {o : Oper} {ev : Operand → V} {mT : List Ob} {base : Nat} {K : V → List Ob → Prop} {src dst e : TypeId} {x : Operand} {s : ByteArray} (ho : o.op = .convert src dst x) (he : elt P dst = some e) (hu : intT P e = some .u8) (hs : isStrT P src = true) (hx' : ev x = .str s) (hn : s.size ≤ 2 ^ 47) (h : K (.ar base 0 s.size) [.arr true 1 (bytesV s)]) : Goal P o ev mT base K:=by
 refine q_newarr (e:=e) (sz:=1) (by decide) (fun x hx=>?_) (bytesV_len s) (fun w Zo m β a M A hx=>?_) h
 ·unfold bytesV at hx
  obtain ⟨b,_,rfl⟩:=List.mem_map.1 hx
  rfl
 have hv:=hx x (by rw [ho]; simp [Op.operands])
 rw [hx'] at hv
 have hv : a.eval x = .string s:=hv
 have hs' : P.underlying src = some .string:=by
  unfold isStrT at hs
  split at hs
  ·assumption
  ·cases hs
 have hu' : P.underlying e = some (.int .u8):=by
  unfold intT at hu
  split at hu
  ·rename_i k2 h2; simp at hu; subst hu; exact h2
  ·cases hu
 have hge:=grownCap_ge w s.size 0 e
 have hlem:=grownCap_le_maxLen w s.size 0 e (by unfold maxLen; omega)
 have hsz : (bytesRow s (grownCap w s.size 0 e)).size = grownCap w s.size 0 e * 1:=by
  unfold bytesRow
  rw [ZY,Array.size_map,Array.size_replicate]
  show s.size + _ = _
  omega
 refine ⟨_,grownCap w s.size 0 e,_,w.drew,?_,Grow.drew w,rfl,hge,by unfold maxLen at hlem; omega,hsz,NoFr.last _,?_⟩
 ·simp only [execOp,ho]
  rw [hv,Sem.run_bind,run_bytes_of_string w src dst e s hs' (elt_out he) hu']
  rfl
 ·have e1 : (bytesRow s (grownCap w s.size 0 e)).toList.take (s.size * 1) = s.data.toList.map fun b=>Value.int .u8 b.toNat:=by
   unfold bytesRow
   rw [ZZ,Array.toList_map,List.take_left']
   rw [List.length_map]
   show _ = s.size * 1
   rw [Nat.mul_one]; rfl
  rw [e1,bytesV_flat]
  exact RVs_bytes _
theorem src_str {P : Program} {mT : List Ob} {s : ByteArray} : Src P mT 1 (.str s) (bytesV s):=by
 intro w Zo m β v M A hv
 have hv : v = .string s:=hv
 subst hv
 have hfl : ∀ l : List UInt8,(l.map fun b=>[V.int .u8 (b.toNat : Int)]).flatten = l.map fun b=>V.int .u8 (b.toNat : Int):=by
  intro l
  induction l with
  | nil=>rfl
  | cons b l ih=>simp [ih]
 have hrv : ∀ l : List UInt8,RVs (cx w Zo m β) (l.map fun b=>V.int .u8 (b.toNat : Int)) (l.map fun b=>Value.int .u8 (b.toNat : Int)):=by
  intro l
  induction l with
  | nil=>rfl
  | cons b l ih=>exact ⟨_,_,rfl,rfl,ih⟩
 have hlen : (bytesV s).length = s.size:=by simp [bytesV]
 refine ⟨s.data.toList.map fun b=>Value.int .u8 (b.toNat : Int),by unfold bytesV; rw [hfl]; exact hrv _,by rw [hlen]; rfl,fun w2 _=>?_⟩
 rw [hlen]
 simp only [Builtin.firstCells,Sem.run_pure]
 congr 1
 apply Array.ext'
 have : (s.extract 0 s.size).data = s.data:=by
  simp
 rw [this]
 simp
section
variable {P : Program} {o : Oper} {st : St} {K : St → Prop}
theorem rows_flat {c : Cx} {sz b : Nat} {xs : List (List V)} {us : Array Value} {e : TypeId} {fr : Nat × Nat} (hw : c.w.heap[b]? = some (.cells us e fr)) (h : RR c sz b 0 xs) (hl : xs.length * sz ≤ us.size) : RVs c xs.flatten (us.toList.take (xs.length * sz)):=by
 obtain ⟨vs,k1,k2,k3⟩:=h.list
 have : vs = us.toList.take (xs.length * sz):=by
  apply Yg
  intro j
  rcases Zk j vs.length with hj | hj
  ·have:=k3 j _ (Zg hj)
   rw [cell_at hw,Zc] at this
   rw [Zg hj,ZA,if_pos (by omega)]
   simpa using this.symm
  ·rw [Zu hj,ZA,if_neg (by omega)]
 rw [← this]
 exact k1
theorem append_core {t t' e ty : TypeId} {x y : Operand} {q n sz : Nat} {ag : Bool} {zs : List V} {xs ys : List (List V)} (ho : o.op = .call { callee:=.builtin .append,args:=#[x,y],argTypes:=#[t,t'] }) (he : elt P t = some e) (hl : lay P e = some (sz,ag)) (hs : 0 < sz) (hz : zer P e = some zs) (hzs : zs.length = sz) (hq : seqT P t' = true)
  (hm : st.m[q]? = some (.arr true sz xs)) (hn : xs.length = n) (hly : ∀ z ∈ ys,z.length = sz) (h1 : ∀ z ∈ ys.flatten,oneV st.m z = true) (hb1 : (n + ys.length) * P.bytesOf e ≤ 2 ^ 47) (hb2 : n + ys.length ≤ 2 ^ 62)
  (h : K ⟨putT st.t o.dst (.ar st.m.length 0 (n + ys.length)),st.m.set q .dead ++ [.arr true sz (xs ++ ys)],st.g⟩)
  {w0 w : World} {E Zo : Nat → Prop} {a : Act} {Q : Exit → Act → World → Prop} {β : List Lc} (M : Mem w Zo st.m β) (hE : ∀ b,liveAt st.m β b → E b ∨ w0.heap.size ≤ b) (hF : Frame E w0 w) (hd : a.defers = []) (ht : RVs (cx w Zo st.m β) st.t a.tmps.toList) {gh : List Value} (hgh : RVs (cx w Zo st.m β) st.g gh)
  (hvx : RV (cx w Zo st.m β) (.ar q 0 n) (a.eval x)) (hsrc : ∃ us : List Value,RVs (cx w Zo st.m β) ys.flatten us ∧ (Builtin.lenOf (a.eval y)).run P w = .ok ys.length w ∧ ∀ w2 : World,w2.heap = w.heap → (Builtin.firstCells sz ys.length (a.eval y)).run P w2 = .ok us.toArray w2) :
  o.wp P a w (fun a' w'=>∃ st',K st' ∧ Rel w0 E Zo gh st' a' w') Q:=by
 obtain ⟨_,l,hβ,⟨b1,b2,b3,b4⟩,b5,A',e1,b6⟩:=at_ar M (Agree.refl _) hm hvx
 rw [ZH] at e1
 obtain ⟨vs,s1,s2,s3⟩:=hsrc
 obtain ⟨i,d,g1,g2,g3,g4⟩:=lay_info hl
 obtain ⟨i',z,hi,hz',rfl⟩:=zer_out hz
 rw [g1] at hi; cases hi
 have hzsz : z.cells.size = sz:=by simpa using hzs
 have hvl : vs.length = ys.length * sz:=by rw [s1.length,flatten_len hly]
 have hone:=one_list M (Agree.refl _) h1 s1
 have hbytes : P.bytesOf e = i.bytes:=by simp [Program.bytesOf,g1]
 have hex : ∀ v w2,(Builtin.append_ #[t,t'] o.type #[a.eval x,a.eval y]).run P w = .ok v w2 → (execOp a.eval o).run P w = .ok (.value v) w2:=by
  intro v w2 hv
  simp [execOp,ho,resolve,invoke,builtin,hv]
 by_cases hfit : n + ys.length ≤ l.cap
 ·-- in place
  by_cases hcap : l.cap = 0
  ·-- nothing there,nothing new
   have hn0 : n = 0:=by omega
   have hy0 : ys = []:=Zj (by omega)
   subst hy0
   have hx0 : xs = []:=Zj (by omega)
   have hv0 : vs = []:=Zj (by simpa using hvl)
   subst hv0
   have hst : ∀ ad,A' = some ad → (storeCells (ad.add (n * i.size)) (#[] : Array Value).toList).run P w = .ok () w:=fun ad _=>rfl
   have hr:=run_append_fits (P:=P) (ty:=o.type) (elt_out he) g1 hq s2 (by rw [g3]; exact s3 w rfl) hfit hst (fun _=>rfl)
   obtain ⟨M2,hle2,hlv2⟩:=M.move hm hβ
   refine wp_value (v:=.slice A' (n + [].length) l.cap) (w':=w) (hex _ _ (by rw [e1]; exact hr)) ?_
   have hob : Ob.arr true sz (xs ++ []) = Ob.arr true sz xs:=by rw [List.append_nil]
   rw [hob] at h
   refine ⟨_,h,_,M2,fun b hb=>hE b (hlv2 b hb),hF,by cases o.dst <;> exact hd,(ht.mono hle2).put ?_ o.dst,hgh.mono hle2⟩
   unfold RV
   rw [show (cx w Zo (st.m.set q .dead ++ [.arr true sz xs]) (β ++ [l])).m = st.m.set q .dead ++ [.arr true sz xs] from rfl,show (cx w Zo (st.m.set q .dead ++ [.arr true sz xs]) (β ++ [l])).β = β ++ [l] from rfl]
   rw [Zh (by simp),Zh (by rw [M.len]; exact Zd _)]
   simp only [List.length_set,Nat.sub_self,Yi,M.len]
   exact ⟨by simp; omega,A',by rw [ZH],fun hlt=>by omega⟩
  ·rcases b4 with b4 | ⟨us,e',fr,k1,k2,k3,k4,k5⟩
   ·exact absurd b4 hcap
   have k1 : w.heap[l.b]? = some (.cells us e' fr):=k1
   have hA:=b6 (by omega)
   subst hA
   rw [ZI] at e1
   have hroom : n * sz + vs.length ≤ us.size:=by
    rw [hvl,k2,← Zf]; exact ZF _ hfit
   obtain ⟨w',us',r1,r2,r3,r4,r5⟩:=run_storeCells (P:=P) l.b (n * sz) e' fr vs 0 us w k1 k3.less (by omega) hone
   simp only [Zy] at r5
   have hst : ∀ ad,(some (⟨l.b,0,none⟩ : Addr)) = some ad → (storeCells (ad.add (n * i.size)) vs.toArray.toList).run P w = .ok () w':=by
    rintro ad he; cases he
    rw [add_plain,Zc,g3]
    exact r1
   have hr:=run_append_fits (P:=P) (ty:=o.type) (elt_out he) g1 hq s2 (by rw [g3]; exact s3 w rfl) hfit hst (fun h=>by cases h)
   have hblk : ∀ ys',(Ob.arr true sz ys').blk l = some l.b:=fun ys'=>by simp [Ob.blk,hcap]
   obtain ⟨M1,hle1⟩:=M.turn (w':=w') (ob':=.arr true sz (xs ++ ys)) hm hβ (.inr ⟨_,_,rfl,rfl,by simp⟩) (fun b hb=>by rw [hblk] at hb ⊢; exact hb) r2.size (fun b hlt hne=>r2.block b (fun e=>hne (by rw [e]; exact hblk _)))
    (fun hle _=>by
     refine ⟨by simp; omega,b2,b3,.inr ⟨us',e',fr,r3,by rw [r4,k2],by rw [r4]; exact k3,?_,.inl rfl⟩⟩
     have hall : ∀ x ∈ xs ++ ys,x.length = sz:=by
      intro x hx'
      rcases List.mem_append.1 hx' with h | h
      ·exact k4.length x h
      ·exact hly x h
     refine RR.of (us:=us.toList.take (n * sz) ++ vs) hall ?_ ?_
     ·rw [Yj]
      refine RVs.append ?_ (s1.mono hle)
      have:=rows_flat (c:=cx w Zo st.m β) k1 k4 (by rw [hn]; omega)
      rw [hn] at this
      exact this.mono hle
     ·intro j u hj
      show w'.cell? ⟨l.b,0 + j,none⟩ = some u
      rw [cell_at r3,Zc,r5]
      have htl : (us.toList.take (n * sz)).length = n * sz:=by simp; omega
      rcases Zk j (n * sz) with hlt | hge
      ·rw [if_neg (by omega)]
       rw [Ze (by omega),ZA,if_pos hlt] at hj
       simpa using hj
      ·rw [Zh (by omega),htl] at hj
       have:=(Zb.1 hj).1
       rw [if_pos (by omega)]
       exact hj)
   have hm1 : (st.m.set q (.arr true sz (xs ++ ys)))[q]? = some (.arr true sz (xs ++ ys)):=Zi (Zb.1 hm).1
   obtain ⟨M2,hle2,hlv2⟩:=M1.move hm1 hβ
   have hset : ((st.m.set q (.arr true sz (xs ++ ys))).set q .dead) = st.m.set q .dead:=by simp
   rw [hset] at M2 hle2 hlv2
   refine wp_value (v:=.slice (some ⟨l.b,0,none⟩) (n + ys.length) l.cap) (w':=w') (hex _ _ (by rw [e1]; exact hr)) ?_
   refine ⟨_,h,_,M2,?_,r2.frame hF (hE _ ⟨q,_,l,hm,hβ,hblk _⟩),by cases o.dst <;> exact hd,(ht.mono (hle1.trans hle2)).put ?_ o.dst,hgh.mono (hle1.trans hle2)⟩
   ·intro b hb
    obtain ⟨p,ob,l',h3,h4,h5⟩:=hlv2 b hb
    rcases getElem?_set_some h3 with ⟨e2,e3,_⟩ | ⟨hne,h3⟩
    ·subst e2; subst e3
     rw [hβ] at h4; cases h4
     rw [hblk] at h5
     exact hE b ⟨_,_,l,hm,hβ,by rw [hblk]; exact h5⟩
    ·exact hE b ⟨p,ob,l',h3,h4,h5⟩
   ·unfold RV
    rw [show (cx w' Zo (st.m.set q .dead ++ [.arr true sz (xs ++ ys)]) (β ++ [l])).m = st.m.set q .dead ++ [.arr true sz (xs ++ ys)] from rfl,show (cx w' Zo (st.m.set q .dead ++ [.arr true sz (xs ++ ys)]) (β ++ [l])).β = β ++ [l] from rfl]
    rw [Zh (by simp),Zh (by rw [M.len]; exact Zd _)]
    simp only [List.length_set,Nat.sub_self,Yi,M.len]
    exact ⟨by simp; omega,_,by rw [ZH],fun hlt=>by rw [ZI]⟩
 ·-- a new row
  have hold : ∃ olds : List Value,RVs (cx w Zo st.m β) xs.flatten olds ∧ (Builtin.firstCells i.size n (.slice A' n l.cap)).run P w.drew = .ok olds.toArray w.drew:=by
   by_cases hx0 : n = 0
   ·have : xs = []:=Zj (by omega)
    subst this
    exact ⟨[],rfl,run_firstCells (by simp [hx0]) (.inl hx0) _⟩
   ·rcases b4 with b4 | ⟨us,e',fr,k1,k2,k3,k4,k5⟩
    ·omega
    ·obtain ⟨os,j1,j2,j3⟩:=k4.list
     refine ⟨os,j1,?_⟩
     have hA : A' = some ⟨l.b,0,none⟩:=by have:=b6 (by omega); rwa [ZI] at this
     rw [g3]
     exact run_firstCells (w:=w.drew) (by rw [j2,hn]) (.inr ⟨l.b,0,hA,fun j u hj=>(show w.cell? _ = some u from j3 j u hj)⟩) _
  obtain ⟨olds,o1,o2⟩:=hold
  have h48:=growslice_fits (need:=n + ys.length) (old:=l.cap) (bytes:=i.bytes) (by omega) (by rw [hbytes] at hb1; omega)
  have hr:=run_append_grows (P:=P) (ty:=o.type) (elt_out he) g1 hz' hq s2 (by rw [g3]; exact s3 w.drew rfl) o2 (by omega) (by omega) h48
  have hge:=grownCap_ge w (n + ys.length) l.cap e
  have hlem:=grownCap_le_maxLen w (n + ys.length) l.cap e (by unfold maxLen; omega)
  have hxs : ∀ x ∈ xs,x.length = sz:=by
   intro y hy
   rcases b4 with b4 | ⟨us,e',fr,k1,k2,k3,k4,k5⟩
   ·have : xs = []:=Zj (by omega)
    subst this; cases hy
   ·exact k4.length y hy
  have hol : olds.length = n * sz:=by rw [o1.length,flatten_len hxs,hn]
  -- the elder row dies,the new one is laid
  obtain ⟨M1,hle1⟩:=M.turn (w':=w) (ob':=.dead) hm hβ (.inl rfl) (fun b hb=>by simp [Ob.blk] at hb) rfl (fun _ _ _=>rfl) (fun _ _=>trivial)
  obtain ⟨M2,hle2⟩:=M1.holes 1
  let cells : Array Value:=olds.toArray ++ vs.toArray ++ Builtin.zeroCells z.cells (grownCap w (n + ys.length) l.cap e - (n + ys.length))
  have hcs : cells.size = grownCap w (n + ys.length) l.cap e * sz:=by
   simp only [cells,ZY,Yk,zeroCells_size,hol,hvl,hzsz,← Zf]
   congr 1; omega
  have hG : Grow w (w.drew.alloc (.cells cells e)):=(Grow.drew w).trans (Grow.alloc w.drew _)
  have hhole : (st.m.set q .dead ++ Za 1 Ob.hole)[st.m.length]? = some .hole:=by
   rw [Zh (by simp)]; simp
  have hsetm : (st.m.set q .dead ++ Za 1 Ob.hole).set st.m.length (.arr true sz (xs ++ ys)) = st.m.set q .dead ++ [.arr true sz (xs ++ ys)]:=by
   rw [ZD _ _ (by simp)]; simp
  have hxl : ∀ x ∈ xs ++ ys,x.length = sz:=by
   intro y hy
   rcases List.mem_append.1 hy with h | h
   ·rcases b4 with b4 | ⟨us,e',fr,k1,k2,k3,k4,k5⟩
    ·have : xs = []:=Zj (by omega)
     subst this; cases h
    ·exact k4.length y h
   ·exact hly y h
  obtain ⟨M3,hle3⟩:=M2.fill (w':=w.drew.alloc (.cells cells e)) (ob:=.arr true sz (xs ++ ys)) (l:=⟨w.heap.size,grownCap w (n + ys.length) l.cap e⟩) hhole hG (fun b hb=>by simp only [Ob.blk] at hb; split at hb <;> simp at hb; omega)
   (fun hle=>by
    refine ⟨by simp; omega,by unfold maxLen at hlem; show grownCap w (n + ys.length) l.cap e < 2 ^ 63; omega,hs,.inr ⟨cells,e,(0,0),heap_new w.drew _,hcs,NoFr.zero _,?_,.inl rfl⟩⟩
    refine RR.of (us:=olds ++ vs) hxl ?_ fun j u hj=>?_
    ·rw [Yj]
     exact ((o1.append s1).mono (hle1.trans (hle2.trans hle)))
    ·show (w.drew.alloc (.cells cells e)).cell? ⟨w.drew.heap.size,0 + j,none⟩ = some u
     rw [cell_new,Zc]
     have hlt:=(Zb.1 hj).1
     have : cells.toList[j]? = some u:=by
      simp only [cells,ZZ]
      rw [Ze (by simpa using hlt)]
      exact hj
     simpa using this)
  rw [hsetm] at M3 hle3
  refine wp_value (v:=.slice (some ⟨w.heap.size,0,none⟩) (n + ys.length) (grownCap w (n + ys.length) l.cap e)) (w':=w.drew.alloc (.cells cells e)) (hex _ _ (by rw [e1]; exact hr)) ?_
  refine ⟨_,h,_,M3,?_,hF.trans (hG.mono (fun _ q=>q.elim)),by cases o.dst <;> exact hd,(ht.mono (hle1.trans (hle2.trans hle3))).put ?_ o.dst,hgh.mono (hle1.trans (hle2.trans hle3))⟩
  ·rintro b ⟨p,ob,l',h3,h4,h5⟩
   rcases getElem?_append_one _ _ _ _ h3 with h3 | ⟨g5,e3⟩
   ·rcases getElem?_set_some h3 with ⟨e2,e3,_⟩ | ⟨hne,h3'⟩
    ·subst e3; simp [Ob.blk] at h5
    ·have hp:=(Zb.1 h3').1
     rw [Zl (by omega),Ze (by rw [M.len]; exact hp)] at h4
     exact hE b ⟨p,ob,l',h3',h4,h5⟩
   ·subst e3
    have hp : p = st.m.length:=by rw [g5]; simp
    subst hp
    rw [Zi (by simp [M.len])] at h4
    cases h4
    simp only [Ob.blk] at h5
    split at h5
    ·cases h5
    ·simp at h5; subst h5; exact .inr hF.size
  ·refine RV_ar (xs:=xs ++ ys) (lv:=true) (sz:=sz) (l:=⟨w.heap.size,grownCap w (n + ys.length) l.cap e⟩) ?_ ?_ (by rw [ZK]; omega) (by rw [ZH]) (fun _=>by rw [ZI])
   ·show (st.m.set q .dead ++ [Ob.arr true sz (xs ++ ys)])[st.m.length]? = _
    rw [Zh (by simp)]
    simp
   ·show ((β ++ Za 1 _).set st.m.length _)[st.m.length]? = _
    rw [Zi (by simp [M.len])]
theorem s_append {t t' e ty : TypeId} {x y : Operand} {q n sz : Nat} {ag : Bool} {zs : List V} {xs ys : List (List V)} (ho : o.op = .call { callee:=.builtin .append,args:=#[x,y],argTypes:=#[t,t'] }) (he : elt P t = some e) (hl : lay P e = some (sz,ag)) (hs : 0 < sz) (hz : zer P e = some zs) (hzs : zs.length = sz) (hq : seqT P t' = true)
  (hx : St.ev st.t x = .ar q 0 n) (hm : st.m[q]? = some (.arr true sz xs)) (hn : xs.length = n) (hsrc : Src P st.m sz (St.ev st.t y) ys) (hly : ∀ z ∈ ys,z.length = sz) (h1 : ∀ z ∈ ys.flatten,oneV st.m z = true) (hb1 : (n + ys.length) * P.bytesOf e ≤ 2 ^ 47) (hb2 : n + ys.length ≤ 2 ^ 62)
  (h : K ⟨putT st.t o.dst (.ar st.m.length 0 (n + ys.length)),st.m.set q .dead ++ [.arr true sz (xs ++ ys)],st.g⟩) : OW P o st K:=by
 intro w0 E Zo gh a w Q ⟨β,M,hE,hF,hd,ht,hgh⟩
 have hvx:=ev_RV ht x
 rw [hx] at hvx
 exact append_core (ty:=ty) ho he hl hs hz hzs hq hm hn hly h1 hb1 hb2 h M hE hF hd ht hgh hvx (hsrc w Zo st.m β _ M (Agree.refl _) (ev_RV ht y))
theorem oneV_app {m : List Ob} {x : V} (ob : Ob) (h : oneV m x = true) : oneV (m ++ [ob]) x = true:=by
 have g : ∀ (o : Nat) (f : Option Ob → Bool),f none = false → f m[o]? = true → f (m ++ [ob])[o]? = true:=by
  intro o f h0 h1
  rcases Zk o m.length with hlt | hge
  ·rw [Ze hlt]; exact h1
  ·rw [Zu hge,h0] at h1; cases h1
 cases x <;> simp only [oneV] at h ⊢ <;> first
  | exact h
  | exact g _ (fun y=>match y with | some (.arr _ _ _)=>true | _=>false) rfl h
  | exact g _ (fun y=>match y with | some (.box _ _)=>true | _=>false) rfl h
  | exact g _ (fun y=>match y with | some (.mp _ _ _)=>true | _=>false) rfl h
theorem s_append_nil {t t' e ty : TypeId} {x y : Operand} {sz : Nat} {ag : Bool} {zs : List V} {ys : List (List V)} (ho : o.op = .call { callee:=.builtin .append,args:=#[x,y],argTypes:=#[t,t'] }) (he : elt P t = some e) (hl : lay P e = some (sz,ag)) (hs : 0 < sz) (hz : zer P e = some zs) (hzs : zs.length = sz) (hq : seqT P t' = true)
  (hx : St.ev st.t x = .nil) (hsrc : Src P st.m sz (St.ev st.t y) ys) (hly : ∀ z ∈ ys,z.length = sz) (h1 : ∀ z ∈ ys.flatten,oneV st.m z = true) (hb1 : ys.length * P.bytesOf e ≤ 2 ^ 47) (hb2 : ys.length ≤ 2 ^ 62)
  (h : K ⟨putT st.t o.dst (.ar (st.m.length + 1) 0 ys.length),st.m ++ [.dead,.arr true sz ys],st.g⟩) : OW P o st K:=by
 intro w0 E Zo gh a w Q ⟨β,M,hE,hF,hd,ht,hgh⟩
 have hvx:=ev_RV ht x
 rw [hx] at hvx
 have hvx : a.eval x = .slice none 0 0:=hvx
 obtain ⟨us,s1,s2,s3⟩:=hsrc w Zo st.m β _ M (Agree.refl _) (ev_RV ht y)
 obtain ⟨M1,hle1⟩:=M.holes 1
 have hh : (st.m ++ Za 1 Ob.hole)[st.m.length]? = some .hole:=by
  rw [Zh (Zd _)]; simp
 have hset : (st.m ++ Za 1 Ob.hole).set st.m.length (.arr true sz []) = st.m ++ [.arr true sz []]:=by
  rw [ZD _ _ (Zd _)]; simp
 obtain ⟨M2,hle2⟩:=M1.fill (w':=w) (ob:=.arr true sz []) (l:=⟨0,0⟩) hh (Grow.refl w) (fun b hb=>by simp [Ob.blk] at hb) (fun _=>⟨Zd _,by show 0 < 2 ^ 63; omega,hs,.inl rfl⟩)
 rw [hset] at M2 hle2
 have hle:=hle1.trans hle2
 have hm2 : (st.m ++ [Ob.arr true sz []])[st.m.length]? = some (.arr true sz []):=by
  rw [Zh (Zd _)]; simp
 refine append_core (st:=⟨st.t,st.m ++ [.arr true sz []],st.g⟩) (ty:=ty) (n:=0) ho he hl hs hz hzs hq hm2 rfl hly (fun z hz=>oneV_app _ (h1 z hz)) (by rw [Zc]; exact hb1) (by omega) ?_ M2 ?_ hF hd (ht.mono hle) (hgh.mono hle) ?_ ⟨us,s1.mono hle,s2,s3⟩
 ·have e1 : (st.m ++ [Ob.arr true sz []]).set st.m.length .dead ++ [Ob.arr true sz ([] ++ ys)] = st.m ++ [.dead,.arr true sz ys]:=by
   rw [ZD _ _ (Zd _)]; simp
  show K ⟨putT st.t o.dst (.ar (st.m ++ [Ob.arr true sz []]).length 0 (0 + ys.length)),(st.m ++ [Ob.arr true sz []]).set st.m.length .dead ++ [Ob.arr true sz ([] ++ ys)],st.g⟩
  rw [e1,Zc,ZK]
  exact h
 ·rintro b ⟨p,ob,l,g1,g2,g3⟩
  rcases getElem?_append_one _ _ _ _ g1 with g1 | ⟨g1,e⟩
  ·have hp:=(Zb.1 g1).1
   rw [Zl (by omega),Ze (by rw [M.len]; exact hp)] at g2
   exact hE b ⟨p,ob,l,g1,g2,g3⟩
  ·rw [e] at g3
   rw [g1,Zi (by simp [M.len])] at g2
   cases g2
   simp [Ob.blk] at g3
 ·refine RV_ar (xs:=[]) (lv:=true) (sz:=sz) (l:=⟨0,0⟩) (A:=none) hm2 ?_ (by simp) hvx (fun h=>by simp at h)
  show ((β ++ Za 1 _).set st.m.length _)[st.m.length]? = _
  rw [Zi (by simp [M.len])]
end
section
variable {P : Program} {o : Oper} {ev : Operand → V} {mT : List Ob} {base : Nat} {K : V → List Ob → Prop}
theorem q_append0 {t t' e : TypeId} {x y : Operand} {sz : Nat} {ag : Bool} {zs : List V} {ys : List (List V)} (ho : o.op = .call { callee:=.builtin .append,args:=#[x,y],argTypes:=#[t,t'] }) (he : elt P t = some e) (hl : lay P e = some (sz,ag)) (hs : 0 < sz) (hz : zer P e = some zs) (hzs : zs.length = sz) (hq : seqT P t' = true)
  (hx : ev x = .nil ∨ ev x = .e0) (hsrc : Src P mT sz (ev y) ys) (hly : ∀ z ∈ ys,z.length = sz) (hb1 : ys.length * P.bytesOf e ≤ 2 ^ 47) (hb2 : ys.length ≤ 2 ^ 62)
  (h : K (.ar base 0 ys.length) [.arr true sz ys]) : Goal P o ev mT base K:=by
 refine ⟨_,_,QS.new1 fun w Zo m β a M A hxs=>?_,h⟩
 rw [ho] at hxs
 have hvx0:=hxs x (by simp [Op.operands,Call.operands])
 have hvx : ∃ A',a.eval x = .slice A' 0 0:=by
  rcases hx with hx | hx
  ·rw [hx] at hvx0; exact ⟨none,hvx0⟩
  ·rw [hx] at hvx0; exact hvx0
 obtain ⟨A',e1⟩:=hvx
 obtain ⟨vs,s1,s2,s3⟩:=hsrc w Zo m β _ M A (hxs y (by simp [Op.operands,Call.operands]))
 obtain ⟨i,d,g1,g2,g3,g4⟩:=lay_info hl
 obtain ⟨i',z,hi,hz',rfl⟩:=zer_out hz
 rw [g1] at hi; cases hi
 have hzsz : z.cells.size = sz:=by simpa using hzs
 have hvl : vs.length = ys.length * sz:=by rw [s1.length,flatten_len hly]
 have hbytes : P.bytesOf e = i.bytes:=by simp [Program.bytesOf,g1]
 have hex : ∀ v w2,(Builtin.append_ #[t,t'] o.type #[a.eval x,a.eval y]).run P w = .ok v w2 → (execOp a.eval o).run P w = .ok (.value v) w2:=by
  intro v w2 hv
  simp [execOp,ho,resolve,invoke,builtin,hv]
 by_cases hy0 : ys = []
 ·subst hy0
  have hv0 : vs = []:=Zj (by simpa using hvl)
  subst hv0
  have hst : ∀ ad,A' = some ad → (storeCells (ad.add (0 * i.size)) (#[] : Array Value).toList).run P w = .ok () w:=fun ad _=>rfl
  have hr:=run_append_fits (P:=P) (ty:=o.type) (cap:=0) (n:=0) (k:=0) (elt_out he) g1 hq s2 (by rw [g3]; exact s3 w rfl) (Zd _) hst (fun _=>rfl)
  refine ⟨.slice A' 0 0,w,⟨0,0⟩,hex _ _ (by rw [e1]; exact hr),Grow.refl w,fun b hb=>by simp [Ob.blk] at hb,?_⟩
  intro c' hle hw hm hβ hob
  refine ⟨⟨Zd _,by show 0 < 2 ^ 63; omega,hs,.inl rfl⟩,?_⟩
  unfold RV
  rw [hob,hβ]
  exact ⟨Zd _,A',rfl,fun h=>by simp at h⟩
 ·have hpos : 0 < ys.length:=ZG.2 hy0
  have h48:=growslice_fits (need:=0 + ys.length) (old:=0) (bytes:=i.bytes) (by omega) (by rw [hbytes] at hb1; rw [Zc]; exact hb1)
  have hr:=run_append_grows (P:=P) (ty:=o.type) (base:=A') (n:=0) (cap:=0) (olds:=#[]) (elt_out he) g1 hz' hq s2 (by rw [g3]; exact s3 w.drew rfl) (run_firstCells (us:=[]) (by simp) (.inl rfl) _) (by omega) (by omega) h48
  have hge:=grownCap_ge w (0 + ys.length) 0 e
  have hlem:=grownCap_le_maxLen w (0 + ys.length) 0 e (by unfold maxLen; omega)
  generalize hcp : grownCap w (0 + ys.length) 0 e = cp at hr hge hlem
  generalize hcells : ((#[] : Array Value) ++ vs.toArray ++ Builtin.zeroCells z.cells (cp - (0 + ys.length))) = cells at hr
  have hcs : cells.size = cp * sz:=by
   rw [← hcells]
   simp only [ZY,Yk,zeroCells_size,hvl,hzsz,List.length_nil,Zc]
   rw [← Zf]
   congr 1; omega
  have hG : Grow w (w.drew.alloc (.cells cells e)):=(Grow.drew w).trans (Grow.alloc w.drew _)
  refine ⟨_,_,⟨w.heap.size,cp⟩,hex _ _ (by rw [e1]; exact hr),hG,fun b hb=>?_,?_⟩
  ·simp only [Ob.blk] at hb
   split at hb
   ·cases hb
   ·simp at hb; omega
  intro c' hle hw hm hβ hob
  refine ⟨⟨by show ys.length ≤ cp; omega,by unfold maxLen at hlem; show cp < 2 ^ 63; omega,hs,.inr ⟨cells,e,(0,0),by rw [hw]; exact heap_new w.drew _,hcs,NoFr.zero _,?_,.inl rfl⟩⟩,?_⟩
  ·refine RR.of (us:=vs) hly (s1.mono hle) fun j u hj=>?_
   show c'.w.cell? ⟨w.drew.heap.size,0 + j,none⟩ = some u
   rw [hw,cell_new,Zc]
   have hlt:=(Zb.1 hj).1
   have : cells.toList[j]? = some u:=by
    rw [← hcells]
    simp only [ZZ,Array.toList_empty,List.nil_append]
    rw [Ze (by simpa using hlt)]
    exact hj
   simpa using this
  ·unfold RV
   rw [hob,hβ]
   exact ⟨by omega,_,by rw [ZH,Zc],fun _=>by rw [ZI]⟩
end
end Go.Pm
end
end
