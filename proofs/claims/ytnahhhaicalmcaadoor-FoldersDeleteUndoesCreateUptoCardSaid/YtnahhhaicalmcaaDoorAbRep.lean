/- What abstract values and stores say of a world. -/
import Derived.Test.YtnahhhaicalmcaaDoorAbCore
import Derived.Below
import Derived.Calls
import Derived.Laws.OwnMore
import Derived.RangeFuncOwn
set_option linter.unusedVariables false
set_option linter.unusedSimpArgs false
namespace Go.Ab
open Go.RowKit

/-- a slice whose row is the call's own: at least its places lie there -/
def _root_.Go.World.owns (w : World) (e : TypeId) (size : Nat) (v : Value) (n : Nat) (xs : List Value) : Prop :=
  xs.length = n * size ∧
  ((v = .slice none 0 0 ∧ n = 0) ∨
   ∃ g cap cur, v = .slice (some ⟨g, 0, none⟩) n cap ∧ True ∧ w.heap[g]? = some (.cells cur e (0, 0)) ∧ n ≤ cap ∧ cap ≤ maxLen ∧ cap * size ≤ cur.size ∧ cur.toList.take (n * size) = xs)
theorem _root_.Go.World.owns_of {w : World} {e : TypeId} {size n b : Nat} {v : Value} {xs : List Value} (h : w.ownsRow b e size v n xs) : w.owns e size v n xs := by
  refine ⟨h.1, ?_⟩
  rcases h.2 with h | ⟨g, cap, cur, h1, _, h3, h4, h5, h6, h7⟩
  · exact .inl h
  · exact .inr ⟨g, cap, cur, h1, trivial, h3, h4, h5, Nat.le_of_eq h6.symm, h7⟩
theorem _root_.Go.World.owns.cells {w : World} {e : TypeId} {size n : Nat} {v : Value} {xs : List Value} (h : w.owns e size v n xs) {g : Nat} (hg : v.ownBlock = some g) : ∀ j u, xs[j]? = some u → w.cell? ((⟨g, 0, none⟩ : Addr).add j) = some u := by
  intro j u hu
  rcases h.2 with ⟨rfl, _⟩ | ⟨g', cap, cur, rfl, _, hgg, h4, _, h6, htake⟩
  · simp [Value.ownBlock] at hg
  · simp [Value.ownBlock] at hg
    subst hg
    have hj : j < n * size := by have := (List.getElem?_eq_some_iff.1 hu).1; have := h.1; omega
    have hc : n * size ≤ cap * size := Nat.mul_le_mul_right _ h4
    have hadd : (⟨g', 0, none⟩ : Addr).add j = ⟨g', j, none⟩ := by unfold Addr.add; split <;> simp_all
    rw [hadd]
    unfold World.cell?
    simp only [hgg]
    rw [← htake, List.getElem?_take, if_pos hj] at hu
    simpa using hu

abbrev View := Nat → Nat → Option Value
def View.le (H H' : View) : Prop := ∀ b o v, H b o = some v → H' b o = some v
theorem View.le.refl (H : View) : H.le H := fun _ _ _ h => h
theorem View.le.trans {H H' H'' : View} (h : H.le H') (k : H'.le H'') : H.le H'' := fun b o v e => k b o v (h b o v e)
def World.view (w : World) : View := fun b o => w.cell? ⟨b, o, none⟩
/-- the cells from a place on -/
def At (H : View) (a : Addr) (cs : List Value) : Prop := (cs ≠ [] → a.spot = none) ∧ ∀ j v, cs[j]? = some v → H a.block (a.off + j) = some v
theorem At.mono {H H' : View} {a : Addr} {cs : List Value} (h : H.le H') (k : At H a cs) : At H' a cs := ⟨k.1, fun j v e => h _ _ _ (k.2 j v e)⟩

def str (s : List UInt8) : ByteArray := ⟨s.toArray⟩

inductive Rep (C : Ctx) (H : View) : Nat → List Value → U → Prop
  | int {t k u} (h : C.te t = some (.int k)) : Rep C H t [.int k u.toI] u
  | bool {t u} (h : C.te t = some .bool) : Rep C H t [.bool u.toB] u
  | str {t u} (h : C.te t = some .str) : Rep C H t [.string (str u.toS)] u
  | nil {t e u} (h : C.te t = some (.sl e)) (h0 : u.len = 0) (hn : u.isNil = true) : Rep C H t [.slice none 0 0] u
  | sl {t e u a cap} (cs : Nat → List Value) (h : C.te t = some (.sl e)) (hn : u.isNil = false) (hc : u.len ≤ cap)
      (ha : ∀ i, i < u.len → At H (a.add (i * C.sz e)) (cs i)) (hr : ∀ i, i < u.len → Rep C H e (cs i) (u.get i)) : Rep C H t [.slice (some a) u.len cap] u
  | st {t fs u l} (cs : Nat → List Value) (h : C.te t = some (.st fs)) (hr : ∀ j, j < fs.length → Rep C H (nthN fs j) (cs j) (u.get j))
      (hl : l = (List.range fs.length).flatMap cs) : Rep C H t l u
  | fn {t ps r u fi} (ad : Nat → Addr) (cs : Nat → List Value) (h : C.te t = some (.fn ps r)) (hf : C.fn u.fid = some fi)
      (hp : fi.params = ps) (hr : fi.rts = [r]) (ho : fi.own.all Option.isNone = true) (hu : fi.out.all Option.isNone = true) (hl : u.len = fi.caps.length)
      (ha : ∀ j, j < fi.caps.length → (ad j).spot = none ∧ At H (ad j) (cs j)) (hc : ∀ j, j < fi.caps.length → Rep C H (nthN fi.caps j) (cs j) (u.get j)) :
      Rep C H t [.func (.func u.fid) #[] ((List.range fi.caps.length).map fun j => .pointer (some (ad j))).toArray] u
  | ptr {t e u a} (cs : List Value) (h : C.te t = some (.ptr e)) (hs : a.spot = none) (ha : At H a cs) (hr : Rep C H e cs u) : Rep C H t [.pointer (some a)] u

theorem Rep.mono {C : Ctx} {H H' : View} (h : H.le H') {t : Nat} {cs : List Value} {u : U} (r : Rep C H t cs u) : Rep C H' t cs u := by
  induction r with
  | int h => exact .int h
  | bool h => exact .bool h
  | str h => exact .str h
  | nil h h0 hn => exact .nil h h0 hn
  | sl cs h0 hn hc ha hr ih => exact .sl cs h0 hn hc (fun i hi => (ha i hi).mono h) ih
  | st cs h0 hr hl ih => exact .st cs h0 ih hl
  | fn ad cs h0 hf hp hr ho hu hl ha hc ih => exact .fn ad cs h0 hf hp hr ho hu hl (fun j hj => ⟨(ha j hj).1, (ha j hj).2.mono h⟩) ih
  | ptr cs h0 hs ha hr ih => exact .ptr cs h0 hs (ha.mono h) ih

/-- what the tables of types say is so -/
structure CtxOk (P : Program) (C : Ctx) : Prop where
  und : ∀ t ty, C.te t = some ty → match ty with
    | .int k => P.underlying t = some (.int k)
    | .bool => P.underlying t = some .bool
    | .str => P.underlying t = some .string
    | .sl e => P.underlying t = some (.slice e)
    | .st fs => ∃ fds : Array Field, P.underlying t = some (.struct fds) ∧ fds.toList.map (·.type) = fs ∧
        (∀ (j : Nat) fd, fds[j]? = some fd → fd.offset = ((fs.take j).map C.sz).sum ∧ fd.name ≠ "_") ∧ P.stoodInHeld t = false ∧ P.eqGuardType P.depth t = false
    | .fn _ _ => ∃ ps rs v, P.underlying t = some (.func ps rs v)
    | .ptr _ => True
    | .map k v b => P.underlying t = some (.map k v) ∧ C.te k = some .str ∧ P.underlying k = some .string ∧ C.te b = some .bool ∧ ∃ kd i, C.te v = some (.int kd) ∧ P.info? v = some i ∧ i.zero = some (.int kd 0)
  size : ∀ t ty, C.te t = some ty → (∀ e, ty ≠ .ptr e) → ∃ i, P.info? t = some i ∧ i.size = C.sz t
  one : ∀ t ty, C.te t = some ty → (∀ fs, ty ≠ .st fs) → C.sz t = 1
  sum : ∀ t fs, C.te t = some (.st fs) → C.sz t = (fs.map C.sz).sum ∧ 0 < C.sz t
  fields : ∀ t fs f, C.te t = some (.st fs) → f ∈ fs → ∃ ty, C.te f = some ty ∧ ∀ e, ty ≠ .ptr e
  elem : ∀ t e, C.te t = some (.sl e) → ∃ ty, C.te e = some ty ∧ ∀ e', ty ≠ .ptr e'
  mixed : P.follows .mixedOrders = true

/-- rows of this many elements can be had -/
def LimOk (P : Program) (C : Ctx) : Prop := ∀ e i, P.info? e = some i → C.lim e ≤ maxLen ∧ C.lim e * i.bytes ≤ 140737488355328
/-- zero values are what the tables say -/
structure ZeroOk (P : Program) (C : Ctx) : Prop where
  zero : ∀ t, zeroT C 20 t = true → ∃ i z, P.info? t = some i ∧ i.zero = some z ∧ ∀ H, Rep C H t z.cells.toList (zeroU C 20 t)
  one : ∀ t, (match C.te t with | some (.fn _ _) | some (.map _ _ _) => True | _ => False) → ∃ i v, P.info? t = some i ∧ i.zero = some v ∧ v.cells = #[v] ∧ v.oneCell' = true
theorem flatMap_length {α β : Type} (l : List α) (f : α → List β) : (l.flatMap f).length = (l.map fun a => (f a).length).sum := by
  induction l with
  | nil => rfl
  | cons a l ih => simp [ih]

theorem nthN_mem {l : List Nat} {j : Nat} (h : j < l.length) : nthN l j ∈ l := by
  induction l generalizing j with
  | nil => simp at h
  | cons a l ih => cases j with
    | zero => simp [nthN]
    | succ j => simp [nthN]; exact .inr (ih (by simpa using h))
theorem nthN_get {l : List Nat} {j : Nat} (h : j < l.length) : nthN l j = l[j] := by
  induction l generalizing j with
  | nil => simp at h
  | cons a l ih => cases j with
    | zero => rfl
    | succ j => simpa [nthN] using ih (by simpa using h)
theorem map_range_nthN (l : List Nat) (f : Nat → Nat) : (List.range l.length).map (fun j => f (nthN l j)) = l.map f := by
  apply List.ext_getElem
  · simp
  · intro j h1 h2
    simp at h1
    simp [nthN_get h1]

theorem Rep.length {P : Program} {C : Ctx} (ok : CtxOk P C) {H : View} {t : Nat} {cs : List Value} {u : U} (r : Rep C H t cs u) : cs.length = C.sz t := by
  induction r with
  | int h => simp [ok.one _ _ h (by simp)]
  | bool h => simp [ok.one _ _ h (by simp)]
  | str h => simp [ok.one _ _ h (by simp)]
  | nil h => simp [ok.one _ _ h (by simp)]
  | sl cs h => simp [ok.one _ _ h (by simp)]
  | fn ad cs h => simp [ok.one _ _ h (by simp)]
  | ptr cs h => simp [ok.one _ _ h (by simp)]
  | @st t fs u l cs h hr hl ih =>
    rw [hl, flatMap_length, (ok.sum _ _ h).1, ← map_range_nthN fs C.sz]
    congr 1
    apply List.map_congr_left
    intro j hj
    exact ih j (by simpa using hj)

theorem Rep.te {C : Ctx} {H : View} {t : Nat} {cs : List Value} {u : U} (r : Rep C H t cs u) : ∃ ty, C.te t = some ty := by
  cases r <;> exact ⟨_, by assumption⟩

def Value.wide : Value → Bool
  | .agg _ => true
  | _ => false
/-- what a value of a type is, once its cells are known -/
def IsVal (C : Ctx) (t : Nat) (v : Value) (cs : List Value) : Prop :=
  match C.te t with
  | some (.st _) => v = .agg cs.toArray
  | _ => cs = [v]
theorem Rep.one {C : Ctx} {H : View} {t : Nat} {cs : List Value} {u : U} (r : Rep C H t cs u) (h : ∀ fs, C.te t ≠ some (.st fs)) : ∃ v, cs = [v] ∧ v.cells = #[v] := by
  cases r with
  | st cs h' => exact (h _ h').elim
  | _ => exact ⟨_, rfl, rfl⟩
theorem Rep.cells1 {C : Ctx} {H : View} {t : Nat} {cs : List Value} {u : U} (r : Rep C H t cs u) : ∀ v ∈ cs, v.oneCell' = true := by
  induction r with
  | @st t fs u l cs h hr hl ih =>
    intro v hv
    rw [hl] at hv
    obtain ⟨j, hj, hv⟩ := List.mem_flatMap.1 hv
    exact ih j (by simpa using hj) v hv
  | _ => intro v hv; simp at hv; subst hv; rfl

def fieldOff (C : Ctx) (fs : List Nat) (j : Nat) : Nat := ((fs.take j).map C.sz).sum
def poff (C : Ctx) : Nat → List Nat → Nat
  | _, [] => 0
  | t, j :: p => (match C.te t with | some (.st fs) => fieldOff C fs j | _ => 0) + poff C (ftype C t j) p

/-- a path of fields that is there -/
def okPath (C : Ctx) : Nat → List Nat → Prop
  | _, [] => True
  | t, j :: p => ∃ fs, C.te t = some (.st fs) ∧ j < fs.length ∧ okPath C (nthN fs j) p

/-- the block of an own value -/
def blkOf : Value → Option Nat
  | .slice (some a) _ _ => some a.block
  | .pointer (some a) => some a.block
  | .map (some g) => some g
  | _ => none

def RepSl (C : Ctx) (H : View) (e : Nat) (u : U) (v : Value) : Prop :=
  (u.len = 0 ∧ u.isNil = true ∧ v = .slice none 0 0) ∨
  ∃ (a : Addr) (cap : Nat) (cs : Nat → List Value), v = .slice (some a) u.len cap ∧ u.isNil = false ∧ u.len ≤ cap ∧
    (∀ i, i < u.len → At H (a.add (i * C.sz e)) (cs i)) ∧ ∀ i, i < u.len → Rep C H e (cs i) (u.get i)
theorem RepSl.mono {C : Ctx} {H H' : View} (h : H.le H') {e : Nat} {u : U} {v : Value} (r : RepSl C H e u v) : RepSl C H' e u v := by
  rcases r with r | ⟨a, cap, cs, h1, h2, h3, h4, h5⟩
  · exact .inl r
  · exact .inr ⟨a, cap, cs, h1, h2, h3, fun i hi => (h4 i hi).mono h, fun i hi => (h5 i hi).mono h⟩
theorem RepSl.rep {C : Ctx} {H : View} {t e : Nat} {u : U} {v : Value} (ht : C.te t = some (.sl e)) (r : RepSl C H e u v) : Rep C H t [v] u := by
  rcases r with ⟨h1, h2, rfl⟩ | ⟨a, cap, cs, rfl, h2, h3, h4, h5⟩
  · exact .nil ht h1 h2
  · exact .sl cs ht h2 h3 h4 h5
theorem Rep.repSl {C : Ctx} {H : View} {t e : Nat} {u : U} {cs : List Value} (ht : C.te t = some (.sl e)) (r : Rep C H t cs u) : ∃ v, cs = [v] ∧ RepSl C H e u v := by
  cases r with
  | nil h h0 hn => exact ⟨_, rfl, .inl ⟨h0, hn, rfl⟩⟩
  | @sl t e' u a cap cs h hn hc ha hr =>
    rw [h] at ht
    obtain rfl : e' = e := by simpa using ht
    exact ⟨_, rfl, .inr ⟨a, cap, cs, rfl, hn, hc, ha, hr⟩⟩
  | _ => simp_all

/-- a pointer to a variable that is only read -/
def RepPtr (C : Ctx) (H : View) (t : Nat) (u : U) (v : Value) : Prop := ∃ a cs, v = .pointer (some a) ∧ a.spot = none ∧ At H a cs ∧ Rep C H t cs u
theorem RepPtr.mono {C : Ctx} {H H' : View} (h : H.le H') {t : Nat} {u : U} {v : Value} (r : RepPtr C H t u v) : RepPtr C H' t u v := by
  obtain ⟨a, cs, h1, h2, h3, h4⟩ := r
  exact ⟨a, cs, h1, h2, h3.mono h, h4.mono h⟩

abbrev Own := Nat → Value

def RepOw (C : Ctx) (ι : Own) (sto : Sto) (id : Nat) (r : Option (Nat × Nat)) (v : Value) : Prop :=
  match sto id with
  | some (.arr e _ xs) => match r with
    | none => v = ι id
    | some (o, n) => o + n ≤ xs.length ∧ ((ι id = .slice none 0 0 ∧ v = .slice none 0 0 ∧ n = 0) ∨
        ∃ g cap a, ι id = .slice (some ⟨g, 0, none⟩) xs.length cap ∧ v = .slice (some a) n (cap - o) ∧ a.block = g ∧ a.spot = none ∧ (a.off = o * C.sz e ∨ n = 0) ∧ (o = 0 → a.off = 0))
  | some (.box _ _) | some (.mp _ _) | none => False
  | some .dead => True
def RepPb (C : Ctx) (ι : Own) (sto : Sto) (id : Nat) (p : List Nat) (v : Value) : Prop :=
  match sto id with
  | some (.box t _) => okPath C t p ∧ ∃ g, ι id = .pointer (some ⟨g, 0, none⟩) ∧ v = .pointer (some ⟨g, poff C t p, none⟩)
  | some (.arr _ _ _) | some (.mp _ _) | none => False
  | some .dead => True
def RepPe (C : Ctx) (ι : Own) (sto : Sto) (id idx : Nat) (p : List Nat) (v : Value) : Prop :=
  match sto id with
  | some (.arr e _ xs) => okPath C e p ∧ idx < xs.length ∧ ∃ g cap, ι id = .slice (some ⟨g, 0, none⟩) xs.length cap ∧ v = .pointer (some ⟨g, idx * C.sz e + poff C e p, none⟩)
  | some (.box _ _) | some (.mp _ _) | none => False
  | some .dead => True
def RepMp (ι : Own) (sto : Sto) (id : Nat) (v : Value) : Prop :=
  match sto id with
  | some (.mp _ _) => v = ι id
  | some .dead => True
  | _ => False
def RepCap (C : Ctx) (H : View) (ι : Own) (sto : Sto) : Cap → Value → Prop
  | .own id, v => RepPb C ι sto id [] v
  | .ro t u, v => RepPtr C H t u v
def RepCaps (C : Ctx) (H : View) (ι : Own) (sto : Sto) : List Cap → List Value → Prop
  | [], [] => True
  | c :: cs, v :: vs => RepCap C H ι sto c v ∧ RepCaps C H ι sto cs vs
  | _, _ => False
def RepTup (C : Ctx) (H : View) (ι : Own) (sto : Sto) (u : U) : List (Nat × Option Nat) → List Value → Nat → Prop
  | [], [], _ => True
  | (t, none) :: ts, v :: vs, j => (∃ cs, IsVal C t v cs ∧ Rep C H t cs (u.get j)) ∧ RepTup C H ι sto u ts vs (j + 1)
  | (_, some id) :: ts, v :: vs, j => RepOw C ι sto id none v ∧ RepTup C H ι sto u ts vs (j + 1)
  | _, _, _ => False

def RepA (C : Ctx) (H : View) (ι : Own) (sto : Sto) : AV → Value → Prop
  | .junk, _ => True
  | .und, v => v = undef
  | .i k n, v => v = .int k n
  | .b x, v => v = .bool x
  | .s x, v => v = .string (str x)
  | .nl, v => v = .slice none 0 0
  | .sl e u, v => RepSl C H e u v
  | .st t u, v => ∃ cs fs, C.te t = some (.st fs) ∧ v = .agg cs.toArray ∧ Rep C H t cs u
  | .fn t u, v => (∃ ps r, C.te t = some (.fn ps r)) ∧ Rep C H t [v] u
  | .clo f caps, v => ∃ vs, v = .func (.func f) #[] vs.toArray ∧ RepCaps C H ι sto caps vs
  | .ow id r, v => RepOw C ι sto id r v
  | .pb id p, v => RepPb C ι sto id p v
  | .pe id idx p, v => RepPe C ι sto id idx p v
  | .rp t u, v => RepPtr C H t u v
  | .tup ts u, v => ∃ vs, v = .tuple vs.toArray ∧ RepTup C H ι sto u ts vs 0
  | .cv _ _ _, _ => False
  | .mp id, v => RepMp ι sto id v
/-- a slot's value: what hangs on a guard is known where the guard holds -/
def RepS (C : Ctx) (H : View) (ι : Own) (sto : Sto) (tm : Nat → Value) : AV → Value → Prop
  | .cv j w x, v => (tm j = .bool w → RepA C H ι sto x v) ∧ (tm j ≠ .bool w → v = undef)
  | x, v => RepA C H ι sto x v

def live (sto : Sto) (id : Nat) : Prop := match sto id with | some (.arr _ _ _) | some (.box _ _) | some (.mp _ _) => True | _ => False
def chunk (cs : List Value) (n i : Nat) : List Value := (cs.drop (i * n)).take n
/-- a box's variables one behind the other -/
def RepVs (C : Ctx) (H : View) (ι : Own) (sto : Sto) : List Nat → List AV → List Value → Prop
  | [], [], l => l = []
  | t :: ts, x :: xs, l => ∃ v cs l', l = cs ++ l' ∧ cs.length = C.sz t ∧ IsVal C t v cs ∧ RepA C H ι sto x v ∧ (∀ u ∈ cs, u.oneCell' = true) ∧ (∀ u, x.flat = some u → Rep C H t cs u) ∧ RepVs C H ι sto ts xs l'
  | _, _, _ => False
/-- a map's entries -/
def RepM (C : Ctx) (H : View) (vt : Nat) : List U → List MapEntry → Prop
  | [], [] => True
  | u :: us, e :: es => e.key = .string (str (u.get 0).toS) ∧ (∃ cs, IsVal C vt e.val cs ∧ Rep C H vt cs (u.get 1)) ∧ RepM C H vt us es
  | _, _ => False
def BlkOk (C : Ctx) (H : View) (ι : Own) (sto : Sto) (w : World) (id : Nat) : Prop :=
  match sto id with
  | some (.arr e z xs) => ∃ cs, w.owns e (C.sz e) (ι id) xs.length cs ∧ (∀ i, i < xs.length → Rep C H e (chunk cs (C.sz e) i) (U.nth xs i)) ∧
      (ι id = .slice none 0 0 ↔ z = true ∧ xs = []) ∧ (∃ ty, C.te e = some ty)
  | some (.box t vs) => ∃ g cur, ι id = .pointer (some ⟨g, 0, none⟩) ∧ w.heap[g]? = some (.cells cur t (0, 0)) ∧ (∃ ty, C.te t = some ty) ∧ RepVs C H ι sto (boxTs C t) vs cur.toList
  | some (.mp t us) => ∃ g es clock kt vt bt, ι id = .map (some g) ∧ w.heap[g]? = some (.map es clock) ∧ C.te t = some (.map kt vt bt) ∧ RepM C H vt us es.toList
  | _ => True

/-- objects that memory of the call's own may be -/
def ownable : Obj → Bool
  | .cells _ _ _ | .map _ _ => true
  | _ => false
/-- what a call has found: the view of its arguments, the world, the blocks that were handed to it -/
structure Fr where
  H : View
  w0 : World
  O : Nat → Prop
  kp : Nat → Obj → Prop
structure FrOk (f : Fr) : Prop where
  le : f.H.le (World.view f.w0)
  own : ∀ b o, f.O b → f.H b o = none
  lt : ∀ b, f.O b → b < f.w0.heap.size
  kpc : ∀ k o, f.kp k o → ownable o = false
/-- the marks that ranges over functions have left: nothing was deferred in a round -/
def Marks (b0 : Nat) (w : World) : List Deferred → Prop
  | [] => True
  | d :: ds => (∃ D, d = { target := .collected D, args := #[] } ∧ b0 ≤ D ∧ w.heap[D]? = some (.deferred (some [])) ∧ ∀ D', ({ target := .collected D', args := #[] } : Deferred) ∈ ds → D' ≠ D) ∧ Marks b0 w ds
theorem Marks.mono {b0 : Nat} {w w' : World} (h : ∀ (k : Nat) (o : Obj), w.heap[k]? = some o → ownable o = false → w'.heap[k]? = some o) : ∀ {ds : List Deferred}, Marks b0 w ds → Marks b0 w' ds
  | [], _ => trivial
  | d :: ds, ⟨⟨D, h1, h2, h3, h4⟩, k⟩ => ⟨⟨D, h1, h2, h D _ h3 rfl, h4⟩, Marks.mono h k⟩
/-- blocks of before are as they were, but for those that were handed over -/
structure Keep (O : Nat → Prop) (w w' : World) : Prop where
  os : w'.os = w.os
  tape : w'.tape = w.tape
  output : w'.output = w.output
  size : w.heap.size ≤ w'.heap.size
  drawn : w.drawn ≤ w'.drawn
  block : ∀ k, k < w.heap.size → ¬ O k → w'.heap[k]? = w.heap[k]?

theorem ask_drawn {α : Type} : ∀ (q : Ask α) (w : World), w.drawn ≤ (w.ask q).2.drawn
  | .done a, w => Nat.le_refl _
  | .ask what range k, w => by
    unfold World.ask
    simp only
    split
    · exact ask_drawn _ _
    · have := ask_drawn (k ((Question.extern what range).cut (w.tape w.drawn (Question.extern what range)))) { w with drawn := w.drawn + 1 }
      exact Nat.le_trans (Nat.le_succ w.drawn) this
theorem sys_drawn (w : World) (c : Sys) : w.drawn ≤ (w.sys c).2.drawn := by
  have h := ask_drawn (Kernel.perform c w.os) w
  unfold World.sys
  split
  · exact Nat.le_refl _
  · rename_i e
    rw [e] at h
    exact h
theorem far_drawn {P : Program} {w w' : World} {a : Addr} {v : Value} {b : Bool} {l : List Addr} (h : w.farStore P a v b = .ok (w', l)) : w'.drawn = w.drawn := by
  unfold World.farStore at h
  split at h
  · split at h
    · rename_i e
      cases h
      unfold World.viewStore at e
      simp only [bind, Except.bind, pure, Except.pure, throw, throwThe, MonadExceptOf.throw] at e
      repeat' (split at e)
      all_goals first | (cases e; done) | (cases e; rfl)
    · cases h
  · cases h
theorem setC_drawn (w : World) (a : Addr) (v : Value) : (w.setCell a v).drawn = w.drawn := rfl
theorem run_drawn (P : Program) {α : Type} : ∀ (s : Sem α) {w w' : World} {x : α}, s.run P w = .ok x w' → w.drawn ≤ w'.drawn := by
  intro s
  induction s with
  | pure a => intro w w' x h; cases h; exact Nat.le_refl _
  | load m a k ih =>
    intro w w' x h
    unfold Sem.run at h
    split at h
    · exact ih _ h
    · split at h
      · exact ih _ h
      · cases h
  | store m a v k ih =>
    intro w w' x h
    cases v <;> unfold Sem.run at h <;> (try (cases h; done)) <;>
    · split at h
      · split at h
        · cases h
        · exact setC_drawn _ _ _ ▸ ih h
      · split at h
        · rename_i e
          exact far_drawn e ▸ ih h
        · cases h
  | new o k ih => intro w w' x h; exact ih w.heap.size (w := { w with heap := w.heap.push o }) h
  | shape r k ih => intro w w' x h; exact ih _ h
  | freeze a n k ih =>
    intro w w' x h
    have := ih h
    unfold World.freeze at this
    split at this <;> exact this
  | frozen a k ih => intro w w' x h; exact ih _ h
  | getObj r k ih =>
    intro w w' x h
    unfold Sem.run at h
    split at h
    · cases h
    · exact ih _ h
    · cases h
  | setObj r o k ih =>
    intro w w' x h
    unfold Sem.run at h
    split at h
    · cases h
    · exact ih (w := { w with heap := w.heap.setIfInBounds r o }) h
    · cases h
  | choose q k ih =>
    intro w w' x h
    unfold Sem.run at h
    split at h
    · exact ih _ h
    · have := ih _ h
      exact Nat.le_trans (Nat.le_succ w.drawn) this
  | sys c k ih => intro w w' x h; exact Nat.le_trans (sys_drawn w c) (ih _ h)
  | program k ih => intro w w' x h; exact ih _ h
  | mark m k ih => intro w w' x h; exact ih h
  | halt h => intro w w' x h; cases h

open Classical in
noncomputable def view (f : Fr) (ι : Own) (sto : Sto) (w : World) : View := fun b o =>
  if ∃ id, live sto id ∧ blkOf (ι id) = some b then none
  else if b < f.w0.heap.size ∧ ¬ f.O b then f.H b o else w.cell? ⟨b, o, none⟩

def tmOf (a : Act) (j : Nat) : Value := a.tmps.getD j undef

structure Sim (C : Ctx) (f : Fr) (ι : Own) (st : St) (a : Act) (w : World) : Prop where
  env : ∀ t, RepS C (view f ι st.sto w) ι st.sto (tmOf a) (look st.env t) (tmOf a t)
  size : st.env.length = a.tmps.size
  blk : ∀ id, BlkOk C (view f ι st.sto w) ι st.sto w id
  inj : ∀ id id' g, live st.sto id → live st.sto id' → blkOf (ι id) = some g → blkOf (ι id') = some g → id = id'
  rng : ∀ id g, live st.sto id → blkOf (ι id) = some g → f.w0.heap.size ≤ g ∨ f.O g
  keep : Keep f.O f.w0 w
  oth : ∀ k o, f.kp k o → w.heap[k]? = some o
  defers : Marks f.w0.heap.size w a.defers

end Go.Ab
