/- What holds of operations outside a round holds of them in a round of a range over a function, if none of them defers a call. -/
import Derived.Test.YtnahhhaicalmcaaDoorAbRep
import Derived.Test.YtnahhhaicalmcaaDoorAbX3
import Derived.Test.YtnahhhaicalmcaaDoorAbTpl
import Derived.OrdersIn
import Derived.TacticsIn
import Derived.RangeFuncLeaves
import Derived.RangeFuncRecord
set_option linter.unusedVariables false
set_option linter.unusedSimpArgs false
section
namespace Go.Ab
variable {P : Program}

/-- no fence, in a round or in none -/
def Rd (r : Option Nat) : Fence := { Fence.wide with round := r }
theorem Rd.room (r : Option Nat) (n : Nat) : (Rd r).room n := room_wide n
theorem callsIn_rd {r : Option Nat} {n : Nat} {f : FuncId} {args : Array Value} {w : World} {R : Ending → World → Prop} : CallsIn (Rd r) n P f args w R ↔ Calls P f args w R := callsIn_wide
theorem rowsIn_rd {r : Option Nat} {n : Nat} {row : String} {args : Array Value} {w : World} {R : Value → World → Prop} (h : Rows P row args w R) : RowsIn (Rd r) n P row args w R :=
  fun c cs _ => let ⟨v, w', k, s⟩ := h c cs; ⟨v, w', k, stepsIn_wide.2 s⟩
def noDefer (r : Option Nat) (o : Oper) : Prop := r = none ∨ ∀ c, o.op ≠ .defer c
theorem oper_in {r : Option Nat} {n : Nat} {o : Oper} {a : Act} {w : World} {next : Act → World → Prop} {Q : Exit → Act → World → Prop} (hd : noDefer r o) (h : o.wp P a w next Q) : o.wpIn (Rd r) n P a w next Q := by
  refine ⟨fun _ _ => trivial, ?_⟩
  have e : o.semAt (Rd r).round a.eval = execOp a.eval o := by
    rcases hd with rfl | hd
    · rfl
    · exact Oper.semAt_eq _ _ _ hd
  rw [e]
  unfold Oper.wp at h
  generalize (execOp a.eval o).run P w = x at h
  cases x with
  | ok y w' =>
    cases y <;> simp only [Oper.upon, Oper.uponIn] at h ⊢ <;>
      first
        | exact h
        | exact ⟨fun e => (nomatch e), callsIn_rd.2 h⟩
        | exact ⟨fun e => (nomatch e), rowsIn_rd h⟩
        | exact h.elim
  | halt x w' => cases x <;> simp only [Oper.upon, Oper.uponIn] at h ⊢ <;> exact h
theorem wpList_in {r : Option Nat} {n : Nat} {ops : Array Oper} {Q : Exit → Act → World → Prop} (hQ : ¬ LetsOut Q) : ∀ {l : List Oper}, (∀ o ∈ l, noDefer r o) → ∀ {a : Act} {w : World}, wpList P ops Q l a w → wpListIn (Rd r) n P ops Q l a w
  | [], _, _, _, h => h
  | o :: l, hd, a, w, h => by
    have ih : ∀ {a : Act} {w : World}, wpList P ops Q l a w → wpListIn (Rd r) n P ops Q l a w := fun h => wpList_in hQ (fun o ho => hd o (List.mem_cons_of_mem _ ho)) h
    unfold wpList at h
    unfold wpListIn
    split
    · rename_i hw
      rw [if_pos hw] at h
      rcases h with h | ⟨_, h⟩
      · exact oper_in (hd o (List.mem_cons_self ..)) (Oper.wp_mono (fun a w h => ih h) h)
      · exact (hQ h).elim
    · rename_i hw
      rw [if_neg hw] at h
      exact ⟨fun _ _ => trivial, ih h⟩
theorem wpAny_in {r : Option Nat} {n : Nat} {md : Region.Mode} {ops : Array Oper} {Q : Exit → Act → World → Prop} (hQ : ¬ LetsOut Q) (hd : ∀ (i : Nat) (o : Oper), ops[i]? = some o → noDefer r o) :
    ∀ {fuel : Nat} {listed : Array Bool} {a : Act} {w : World}, wpAny P md ops Q fuel listed a w → wpAnyIn (Rd r) n P md ops Q fuel listed a w
  | 0, _, _, _, h => h
  | fuel + 1, listed, a, w, h => by
    refine ⟨h.1, fun i hi => ?_⟩
    have k := wpOp_mono (K' := wpAnyIn (Rd r) n P md ops Q fuel (listed.setIfInBounds i true)) (fun a w h => wpAny_in hQ hd h) (h.2 i hi)
    unfold wpOp at k
    unfold wpOpIn
    cases ho : ops[i]? with
    | none => rw [ho] at k; exact k
    | some o =>
      rw [ho] at k
      simp only at k ⊢
      split
      · rename_i hw
        rw [if_pos hw] at k
        rcases k with k | ⟨_, k⟩
        · exact oper_in (hd i o ho) k
        · exact (hQ k).elim
      · rename_i hw
        rw [if_neg hw] at k
        exact ⟨fun _ _ => trivial, k⟩

/-- a loop whose rounds burn fuel -/
theorem wpIn_loop_fuel {F : Fence} {nn : Nat} {c : Code} {Q : Exit → Act → World → Prop} (J : Nat → Act → World → Prop) {n : Nat} {a : Act} {w : World} (h₀ : J n a w)
    (round : ∀ m a w, m ≤ n → J m a w → c.wpIn F nn P (Exit.then (fun a' w' => ∃ m', m' < m ∧ J m' a' w') Q) a w) : (Code.loop c).wpIn F nn P Q a w := by
  intro b k cs hro hb hr
  have key : ∀ m, m ≤ n → ∀ a w, J m a w → ∃ e a' w', Q e a' w' ∧ ArrivesIn (Machine.fenced P F) P (lone (b.atR a (.code c :: .inLoop c :: k)) cs w) b k cs e a' w' := by
    intro m
    induction m using Nat.strongRecOn with
    | _ m ih =>
      intro hm a w hJ
      obtain ⟨e, a₁, w₁, hq, harr⟩ := round m a w hm hJ b (.inLoop c :: k) cs hro hb hr
      cases e with
      | normal =>
        obtain ⟨m', hlt, hJ'⟩ := hq
        obtain ⟨e₂, a₂, w₂, hq₂, harr₂⟩ := ih m' hlt (by omega) a₁ w₁ hJ'
        exact ⟨e₂, a₂, w₂, hq₂, .of_steps (StepsIn.trans harr (.one (fenced_calm hb hr rfl) stepR_inLoop)) harr₂⟩
      | exit id => exact ⟨_, a₁, w₁, hq, .pass (x := .inLoop c) rfl (fun _ _ => .inl (by simp)) harr⟩
      | goto l => exact ⟨_, a₁, w₁, hq, .pass (x := .inLoop c) rfl (fun _ _ => .inl (by simp)) harr⟩
      | ret => exact ⟨_, a₁, w₁, hq, .pass (x := .inLoop c) rfl (fun _ _ => .inl (by simp)) harr⟩
      | panic ch => exact ⟨_, a₁, w₁, hq, .pass (x := .inLoop c) rfl (fun _ _ => .inl (by simp)) harr⟩
      | outgrown => exact ⟨_, a₁, w₁, hq, .pass (x := .inLoop c) rfl (fun _ _ => .inl (by simp)) harr⟩
  obtain ⟨e, a', w', hq, harr⟩ := key n (Nat.le_refl _) a w h₀
  exact ⟨e, a', w', hq, .of_steps (.one (fenced_calm hb hr rfl) stepR_loop) harr⟩
end Go.Ab
end
section
namespace Go.Ab
open Go.RowKit
variable {C : Ctx} {P : Program}

theorem cell_other {w : World} {D : Nat} {o o' : Obj} (h : w.heap[D]? = some o) (ho : o.isCells = false) (ho' : o'.isCells = false) (x : Addr) : (w.putObj D o').cell? x = w.cell? x := by
  by_cases e : x.block = D
  · have hlt : D < w.heap.size := (Array.getElem?_eq_some_iff.1 h).1
    have h1 : w.cell? x = none := by
      cases hc : w.cell? x with
      | none => rfl
      | some v =>
        obtain ⟨o2, a1, a2⟩ := cells_of_cell hc
        rw [e, h] at a1; cases a1; rw [ho] at a2; cases a2
    have h2 : (w.putObj D o').cell? x = none := by
      cases hc : (w.putObj D o').cell? x with
      | none => rfl
      | some v =>
        obtain ⟨o2, a1, a2⟩ := cells_of_cell hc
        rw [e, World.putObj_heap_same hlt] at a1; cases a1; rw [ho'] at a2; cases a2
    rw [h1, h2]
  · exact World.cell?_of_block (World.putObj_heap_other e)

theorem ownable_cells {o : Obj} (h : ownable o = false) : o.isCells = false := by cases o <;> first | rfl | (cases h)
/-- an object that holds no cells, and of which nothing is said, is changed -/
theorem Sim.other {f : Fr} {ι : Own} {st : St} {a : Act} {w : World} (s : Sim C f ι st a w) {D : Nat} {o o' : Obj} (hD : f.w0.heap.size ≤ D) (h : w.heap[D]? = some o) (ho : ownable o = false) (ho' : ownable o' = false)
    (hk : ∀ x, ¬ f.kp D x) {ds : List Deferred} (hm : Marks f.w0.heap.size (w.putObj D o') ds) : Sim C f ι st { a with defers := ds } (w.putObj D o') := by
  have hv : view f ι st.sto (w.putObj D o') = view f ι st.sto w := by
    funext b x
    unfold view
    rw [cell_other h (ownable_cells ho) (ownable_cells ho')]
  have hlt : D < w.heap.size := (Array.getElem?_eq_some_iff.1 h).1
  have ne : ∀ id b, live st.sto id → blkOf (ι id) = some b → b ≠ D := fun id b hl hb e => by
    obtain ⟨o2, h3, h4⟩ := (s.blk id).cells hl hb
    rw [e, h] at h3; cases h3; rw [ho] at h4; cases h4
  refine ⟨fun t => by rw [hv]; exact s.env t, s.size, fun id => ?_, s.inj, s.rng, ?_, fun k x hx => ?_, hm⟩
  · rw [hv]
    have hb := s.blk id
    have hne := ne id
    unfold BlkOk at hb ⊢
    cases hs : st.sto id with
    | none => trivial
    | some x =>
      rw [hs] at hb
      cases x with
      | dead => trivial
      | arr e z xs =>
        obtain ⟨cs, k1, k2, k3, k4⟩ := hb
        refine ⟨cs, ⟨k1.1, ?_⟩, k2, k3, k4⟩
        rcases k1.2 with k | ⟨g, cap, cur, e1, e2, e3, r⟩
        · exact .inl k
        · exact .inr ⟨g, cap, cur, e1, e2, by rw [World.putObj_heap_other (hne g (live_arr hs) (by simp [e1, blkOf]))]; exact e3, r⟩
      | box t vs =>
        obtain ⟨g, cur, k1, k2, k3, k4⟩ := hb
        exact ⟨g, cur, k1, by rw [World.putObj_heap_other (hne g (live_box hs) (by simp [k1, blkOf]))]; exact k2, k3, k4⟩
      | mp t us =>
        obtain ⟨g, es, clock, kt, vt, bt, k1, k2, k3, k4⟩ := hb
        exact ⟨g, es, clock, kt, vt, bt, k1, by rw [World.putObj_heap_other (hne g (live_mp hs) (by simp [k1, blkOf]))]; exact k2, k3, k4⟩
  · refine ⟨s.keep.os, s.keep.tape, s.keep.output, by have := s.keep.size; simp; omega, s.keep.drawn, fun k hk hO => ?_⟩
    rw [World.putObj_heap_other (by omega)]
    exact s.keep.block k hk hO
  · by_cases e : k = D
    · exact (hk x (e ▸ hx)).elim
    · rw [World.putObj_heap_other e]; exact s.oth k x hx

/-- what a call yields -/
def Ends (C : Ctx) (f : Fr) (fi : Fn) (u : U) (tm : Array Value) (v : Value) (w : World) : Prop :=
  match fi.xt with
  | none => RetOk C f fi u v w
  | some (_, tu) => ∃ ι', Sim C f ι' (unpack tu (decR u)) { tmps := tm, defers := [] } w ∧ XRes C (view f ι' (unpack tu (decR u)).sto w) fi.rts (u.get 0) v
def Yields (C : Ctx) (f : Fr) (fi : Fn) (u : U) (S : Nat → Prop) (a0 : Act) : Ending → World → Prop
  | .returned v, w => ∃ tm : Array Value, (∀ t, S t → tm.getD t undef = tmOf a0 t) ∧ Ends C f fi u tm v w
  | _, _ => False
theorem xres_rep (ok : CtxOk P C) {f : Fr} (hf : FrOk f) {ι : Own} {st : St} {a : Act} {w : World} (s : Sim C f ι st a w) : ∀ {l : List ResultVar} {ts : List Nat} {us : List U} {u : U} {j : Nat}, flats (l.map (resAV C st)) = some us → fitsTs C ts (l.map (resAV C st)) = true → (∀ i, i < us.length → u.get (j + i) = U.nth us i) →
    ∃ vs, (l.mapM (resRun a.tmps)).run P w = .ok vs w ∧ RepTup C (view f ι st.sto w) (fun _ => undef) (fun _ => none) u (ts.map fun t => (t, none)) vs j
  | [], [], us, u, j, h, hc, hg => ⟨[], by simp, trivial⟩
  | r :: l, t :: ts, us, u, j, h, hc, hg => by
    simp only [List.map_cons, flats] at h
    simp only [List.map_cons, fitsTs, Bool.and_eq_true] at hc
    cases h1 : (resAV C st r).flat with
    | none => simp [h1] at h
    | some u0 =>
      cases h2 : flats (l.map (resAV C st)) with
      | none => simp [h1, h2] at h
      | some us' =>
        simp [h1, h2] at h; subst h
        obtain ⟨vs, k1, k2⟩ := xres_rep ok hf s (u := u) (j := j + 1) h2 hc.2 (fun i hi => by
          have := hg (i + 1) (by simpa using hi)
          simpa [U.nth, Nat.add_assoc, Nat.add_comm 1 i] using this)
        have hj : resAV C st r ≠ .junk := by
          intro e; rw [e] at h1; simp [AV.flat] at h1
        obtain ⟨q, q1, q2⟩ := res_one ok hf s r hj
        have hcv : isCv (resAV C st r) = false := by
          cases he : resAV C st r with
          | cv j w v => rw [he] at h1; simp [AV.flat] at h1
          | _ => rfl
        obtain ⟨cs, c1, c2⟩ := RepA.flat (ev_not_cv q2 hcv) hc.1 h1
        have h0 : u.get j = u0 := by simpa [U.nth] using hg 0 (by simp)
        exact ⟨q :: vs, by simp [q1, k1], ⟨cs, c1, by rw [h0]; exact c2⟩, k2⟩
  | [], _ :: _, us, u, j, h, hc, hg => by simp [fitsTs] at hc
  | _ :: _, [], us, u, j, h, hc, hg => by simp [fitsTs] at hc
theorem ends1 {f : Fr} (ok : CtxOk P C) (hf : FrOk f) {fi : Fn} {fn : Func} (hr : fi.res = fn.results.toList) {st : St} {u : U} (h : aresX C st fi = some u) {ι : Own} {tmps : Array Value} {w : World} (s : Sim C f ι st { tmps, defers := [] } w) :
    ∃ v, (results fn tmps).run P w = .ok v w ∧ Ends C f fi u tmps v w := by
  unfold aresX at h
  unfold Ends
  cases hx : fi.xt with
  | none => rw [hx] at h; exact aresU_sound ok hf s hr h
  | some tt =>
    obtain ⟨ti, tu⟩ := tt
    rw [hx] at h
    simp only at h ⊢
    cases hz : freezes C st ((fi.res.map (resAV C st)).flatMap ownsOf) with
    | none => rw [hz] at h; cases h
    | some st1 =>
      rw [hz] at h
      simp only at h
      obtain ⟨s1, _, _⟩ := freezes_sound ok hf s hz
      obtain ⟨hc, h⟩ := cond_some h
      cases h1 : flats (fi.res.map (resAV C st1)) with
      | none => rw [h1] at h; simp at h
      | some us =>
        cases h2 : pack C tu st1 with
        | none => rw [h1, h2] at h; simp at h
        | some q =>
          rw [h1, h2] at h
          simp only [Option.some.injEq] at h
          subst h
          rw [decR_encJ]
          obtain ⟨vs, k1, k2⟩ := xres_rep ok hf s1 (u := U.ofL false us) (j := 0) h1 hc (fun i hi => by rw [Nat.zero_add]; rfl)
          obtain ⟨ι', n⟩ := unpack_anew s1 h2
          refine ⟨tupV vs, run_results (by rw [← hr]; exact k1), ι', n.sim hf s1, vs, rfl, ?_⟩
          have : (U.ofL false (U.ofL false us :: encJ q)).get 0 = U.ofL false us := rfl
          rw [this]
          exact RepTup.data (n.view_le hf s1) k2
theorem ends {f : Fr} (ok : CtxOk P C) (hf : FrOk f) (hkp : ∀ k o, ¬ f.kp k o) {n : Nat} {fi : Fn} {fn : Func} (hr : fi.res = fn.results.toList) {st : St} {u : U} (h : aresX C st fi = some u) {ι : Own} {tmps : Array Value} {S : Nat → Prop} {a0 : Act} (hS : ∀ t, S t → tmps.getD t undef = tmOf a0 t) :
    ∀ {ds : List Deferred} {w : World}, Sim C f ι st { tmps, defers := ds } w → LeavesInM (Rd none) n P fn tmps (Yields C f fi u S a0) ds .returning w
  | [], w, s => by
    obtain ⟨v, h1, h2⟩ := ends1 ok hf hr h s
    exact ⟨v, h1, tmps, hS, h2⟩
  | d :: ds, w, s => by
    obtain ⟨⟨D, rfl, h2, h3, h4⟩, h5⟩ := s.defers
    refine ⟨by simp, .inl ⟨D, w.putObj D (.deferred none), rfl, run_takeDeferred h3, ?_⟩⟩
    have hm : ∀ {es : List Deferred}, (∀ D', ({ target := .collected D', args := #[] } : Deferred) ∈ es → D' ≠ D) → Marks f.w0.heap.size w es → Marks f.w0.heap.size (w.putObj D (.deferred none)) es := by
      intro es
      induction es with
      | nil => intro _ _; trivial
      | cons e es ih =>
        rintro k ⟨⟨E, rfl, e2, e3, e4⟩, e5⟩
        exact ⟨⟨E, rfl, e2, by rw [World.putObj_heap_other (k E (List.mem_cons_self ..))]; exact e3, e4⟩, ih (fun D' h => k D' (List.mem_cons_of_mem _ h)) e5⟩
    exact ends ok hf hkp hr h hS (s.other h2 h3 rfl rfl (fun x => hkp D x) (hm h4 h5))
end Go.Ab
end
section
namespace Go.Ab
variable {P : Program}

/-- the temporaries of S are as in a0 -/
def Alike (S : Nat → Prop) (a0 a : Act) : Prop := a.tmps.size = a0.tmps.size ∧ ∀ t, S t → tmOf a t = tmOf a0 t
def And' (Q : Exit → Act → World → Prop) (S : Nat → Prop) (a0 : Act) : Exit → Act → World → Prop := fun e a w => Q e a w ∧ Alike S a0 a
theorem Alike.refl (S : Nat → Prop) (a : Act) : Alike S a a := ⟨rfl, fun _ _ => rfl⟩
theorem Alike.trans {S : Nat → Prop} {a b c : Act} (h : Alike S a b) (k : Alike S b c) : Alike S a c := ⟨k.1.trans h.1, fun t ht => (k.2 t ht).trans (h.2 t ht)⟩
theorem Alike.put {S : Nat → Prop} {a0 a : Act} (h : Alike S a0 a) {d : Option Nat} (hd : ∀ t, S t → d ≠ some t) (v : Value) : Alike S a0 (a.put d v) := by
  cases d with
  | none => exact h
  | some d =>
    refine ⟨by simp [Act.put, h.1], fun t ht => ?_⟩
    have hne : d ≠ t := fun e => hd t ht (by rw [e])
    rw [← h.2 t ht]
    simp [tmOf, Act.put, Array.getD_eq_getD_getElem?, Array.getElem?_setIfInBounds, hne]
theorem not_out {Q : Exit → Act → World → Prop} {S : Nat → Prop} {a0 : Act} (hQ : ¬ LetsOut Q) : ¬ LetsOut (And' Q S a0) := fun ⟨a, w, h, _⟩ => hQ ⟨a, w, h⟩
theorem oper_kept {S : Nat → Prop} {a0 : Act} {o : Oper} {a : Act} {w : World} {next next' : Act → World → Prop} {Q : Exit → Act → World → Prop} (hQ : ¬ LetsOut Q) (hd : ∀ t, S t → o.dst ≠ some t) (hs : Alike S a0 a)
    (hn : ∀ a w, Alike S a0 a → next a w → next' a w) (h : o.wp P a w next Q) : o.wp P a w next' (And' Q S a0) := by
  unfold Oper.wp at h ⊢
  generalize (execOp a.eval o).run P w = x at h ⊢
  have hp : ∀ v, Alike S a0 (a.put o.dst v) := fun v => hs.put hd v
  have hdf : ∀ ds : List Deferred, Alike S a0 (({ tmps := a.tmps, defers := ds } : Act).put o.dst undef) := fun ds => Alike.put (a := { tmps := a.tmps, defers := ds }) hs hd undef
  cases x with
  | ok y w' =>
    cases y <;> simp only [Oper.upon] at h ⊢ <;>
      first
        | exact hn _ _ (hp _) h
        | exact hn _ _ (hdf _) h
        | exact Calls.mono h (fun e w'' he => by
            cases e with
            | returned v => exact hn _ _ (hp v) he
            | panicked c => exact ⟨he, hs⟩
            | outgrown => exact (hQ he).elim)
        | exact Rows.mono h (fun v w'' he => hn _ _ (hp v) he)
  | halt x w' => cases x <;> simp only [Oper.upon] at h ⊢ <;> exact ⟨h, hs⟩
theorem wpList_kept {S : Nat → Prop} {a0 : Act} {ops : Array Oper} {Q : Exit → Act → World → Prop} (hQ : ¬ LetsOut Q) : ∀ {l : List Oper}, (∀ o ∈ l, ∀ t, S t → o.dst ≠ some t) → ∀ {a : Act} {w : World}, Alike S a0 a → wpList P ops Q l a w → wpList P ops (And' Q S a0) l a w
  | [], _, _, _, hs, h => ⟨h, hs⟩
  | o :: l, hd, a, w, hs, h => by
    have ih : ∀ {a : Act} {w : World}, Alike S a0 a → wpList P ops Q l a w → wpList P ops (And' Q S a0) l a w := fun hs h => wpList_kept hQ (fun o ho => hd o (List.mem_cons_of_mem _ ho)) hs h
    have ho := hd o (List.mem_cons_self ..)
    unfold wpList at h ⊢
    split
    · rename_i hw
      rw [if_pos hw] at h
      rcases h with h | ⟨_, h⟩
      · exact .inl (oper_kept hQ ho hs (fun a w hs h => ih hs h) h)
      · exact (hQ h).elim
    · rename_i hw
      rw [if_neg hw] at h
      exact ih (hs.put ho _) h
theorem wpAny_kept {S : Nat → Prop} {a0 : Act} {md : Region.Mode} {ops : Array Oper} {Q : Exit → Act → World → Prop} (hQ : ¬ LetsOut Q) (hd : ∀ (i : Nat) (o : Oper), ops[i]? = some o → ∀ t, S t → o.dst ≠ some t) :
    ∀ {fuel : Nat} {listed : Array Bool} {a : Act} {w : World}, Alike S a0 a → wpAny P md ops Q fuel listed a w → wpAny P md ops (And' Q S a0) fuel listed a w
  | 0, _, _, _, hs, h => ⟨h.1, h.2, hs⟩
  | fuel + 1, listed, a, w, hs, h => by
    refine ⟨fun e => ⟨h.1 e, hs⟩, fun i hi => ?_⟩
    have k := h.2 i hi
    unfold wpOp at k ⊢
    cases ho : ops[i]? with
    | none => rw [ho] at k; exact wpAny_kept hQ hd hs k
    | some o =>
      rw [ho] at k
      simp only at k ⊢
      split
      · rename_i hw
        rw [if_pos hw] at k
        rcases k with k | ⟨_, k⟩
        · exact .inl (oper_kept hQ (hd i o ho) hs (fun a w hs h => wpAny_kept hQ hd hs h) k)
        · exact (hQ k).elim
      · rename_i hw
        rw [if_neg hw] at k
        exact wpAny_kept hQ hd (hs.put (hd i o ho) _) k
end Go.Ab
end
section
namespace Go.Ab
variable {C : Ctx}

/-- what is known at w -/
noncomputable def based (f : Fr) (ι : Own) (sto : Sto) (w : World) (kp : Nat → Obj → Prop) : Fr := ⟨view f ι sto w, w, fun b => ∃ id, live sto id ∧ blkOf (ι id) = some b, kp⟩
theorem based_ok {f : Fr} (hf : FrOk f) {ι : Own} {st : St} {a : Act} {w : World} (s : Sim C f ι st a w) {kp : Nat → Obj → Prop} (hk : ∀ k o, kp k o → ownable o = false) : FrOk (based f ι st.sto w kp) :=
  ⟨s.vle hf, fun b o h => by show view f ι st.sto w b o = none; unfold view; exact if_pos h, fun b ⟨id, h1, h2⟩ => (s.blk id).lt h1 h2, hk⟩
theorem view_based {f : Fr} {ι : Own} {sto : Sto} {w : World} {kp : Nat → Obj → Prop} (hs : f.w0.heap.size ≤ w.heap.size) : view (based f ι sto w kp) ι sto w = view f ι sto w := by
  funext b o
  conv => lhs; unfold view
  by_cases h : ∃ id, live sto id ∧ blkOf (ι id) = some b
  · rw [if_pos h]; unfold view; rw [if_pos h]
  · rw [if_neg h]
    by_cases hb : b < w.heap.size
    · rw [if_pos ⟨hb, h⟩]; rfl
    · rw [if_neg (fun x => hb x.1)]
      unfold view
      rw [if_neg h, if_neg (fun x => hb (Nat.lt_of_lt_of_le x.1 hs))]
theorem Sim.base {f : Fr} {ι : Own} {st : St} {a : Act} {w : World} (s : Sim C f ι st a w) {kp : Nat → Obj → Prop} (hk : ∀ k o, kp k o → w.heap[k]? = some o) (hd : a.defers = []) : Sim C (based f ι st.sto w kp) ι st a w := by
  have hv := view_based (f := f) (ι := ι) (sto := st.sto) (kp := kp) s.keep.size
  refine ⟨fun t => by rw [hv]; exact s.env t, s.size, fun id => by rw [hv]; exact s.blk id, s.inj, fun id g hl hb => .inr ⟨id, hl, hb⟩, ⟨rfl, rfl, rfl, Nat.le_refl _, Nat.le_refl _, fun _ _ _ => rfl⟩, hk, by rw [hd]; trivial⟩
/-- back -/
theorem Sim.back {f : Fr} {ι ι' : Own} {st st' : St} {a a' : Act} {w w' : World} {kp : Nat → Obj → Prop} (s0 : Sim C f ι st a w) (s : Sim C (based f ι st.sto w kp) ι' st' a' w')
    (hk : ∀ k o, f.kp k o → w.heap[k]? = some o → w'.heap[k]? = some o) {ds : List Deferred} (hm : Marks f.w0.heap.size w' ds) : Sim C f ι' st' { a' with defers := ds } w' := by
  have hle : w.heap.size ≤ w'.heap.size := s.keep.size
  have hv : view f ι' st'.sto w' = view (based f ι st.sto w kp) ι' st'.sto w' := by
    funext b o
    unfold view
    by_cases h : ∃ id, live st'.sto id ∧ blkOf (ι' id) = some b
    · rw [if_pos h, if_pos h]
    · rw [if_neg h, if_neg h]
      by_cases h1 : b < w.heap.size ∧ ¬ ∃ id, live st.sto id ∧ blkOf (ι id) = some b
      · rw [if_pos (show b < (based f ι st.sto w kp).w0.heap.size ∧ ¬ (based f ι st.sto w kp).O b from h1)]
        show _ = view f ι st.sto w b o
        unfold view
        rw [if_neg h1.2]
        split
        · rfl
        · exact World.cell?_of_block (s.keep.block b h1.1 h1.2)
      · rw [if_neg (show ¬ (b < (based f ι st.sto w kp).w0.heap.size ∧ ¬ (based f ι st.sto w kp).O b) from h1)]
        rw [if_neg]
        rintro ⟨hb, hO⟩
        have hlt : b < w.heap.size := Nat.lt_of_lt_of_le hb s0.keep.size
        have : ∃ id, live st.sto id ∧ blkOf (ι id) = some b := Classical.byContradiction fun hn => h1 ⟨hlt, hn⟩
        obtain ⟨id, hl, hb2⟩ := this
        rcases s0.rng id b hl hb2 with h2 | h2
        · omega
        · exact hO h2
  refine ⟨fun t => by rw [hv]; exact s.env t, s.size, fun id => by rw [hv]; exact s.blk id, s.inj, fun id g hl hb => ?_, ?_, fun k o h => hk k o h (s0.oth k o h), hm⟩
  · rcases s.rng id g hl hb with h | ⟨i, h1, h2⟩
    · exact .inl (Nat.le_trans s0.keep.size h)
    · exact s0.rng i g h1 h2
  · refine ⟨s.keep.os.trans s0.keep.os, s.keep.tape.trans s0.keep.tape, s.keep.output.trans s0.keep.output, Nat.le_trans s0.keep.size hle, Nat.le_trans s0.keep.drawn s.keep.drawn, fun k hlt hO => ?_⟩
    rw [s.keep.block k (Nat.lt_of_lt_of_le hlt s0.keep.size) (fun ⟨id, h1, h2⟩ => by
      rcases s0.rng id k h1 h2 with h | h
      · omega
      · exact hO h)]
    exact s0.keep.block k hlt hO
end Go.Ab
end
section
namespace Go.Ab
variable {C : Ctx}

theorem avL_cv (p : JP) : ∀ (ss : List Sh) (n k : Nat) (v : AV), (avL p ss n)[k]? = some v → isCv v = false
  | [], n, k, v, h => by simp [avL] at h
  | sh :: ss, n, 0, v, h => by
    simp [avL] at h
    subst h
    cases sh <;> rfl
  | sh :: ss, n, k + 1, v, h => avL_cv p ss _ k v (by simpa [avL] using h)
theorem look_junk (n t : Nat) : look (List.replicate n AV.junk) t = .junk := by
  induction n generalizing t with
  | zero => rfl
  | succ n ih => cases t with
    | zero => rfl
    | succ t => simpa [List.replicate_succ, look] using ih t
theorem unpack_slots (tp : Tpl) (p : JP) (t : Nat) : look (unpack tp p).env t = .junk ∨ (t ∈ tp.slots.map (·.1) ∧ isCv (look (unpack tp p).env t) = false) := by
  show (fun t x => x = AV.junk ∨ (t ∈ tp.slots.map (·.1) ∧ isCv x = false)) t (look (lays (List.replicate tp.n .junk) (tp.slots.map (·.1)) (avL p (tp.slots.map (·.2)) 0)) t)
  refine lays_spec (Pd := fun t x => x = AV.junk ∨ (t ∈ tp.slots.map (·.1) ∧ isCv x = false)) (fun _ => .inl rfl) _ _ _ (fun t => .inl (look_junk _ _)) (fun k t v h1 h2 => .inr ⟨List.mem_of_getElem? h1, avL_cv p _ _ k v h2⟩) t
theorem Sim.act {f : Fr} {ι : Own} {tp : Tpl} {p : JP} {a a2 : Act} {w : World} (s : Sim C f ι (unpack tp p) a w) (hz : a2.tmps.size = a.tmps.size) (h : ∀ t, t ∈ tp.slots.map (·.1) → tmOf a2 t = tmOf a t)
    (hm : Marks f.w0.heap.size w a2.defers) : Sim C f ι (unpack tp p) a2 w := by
  refine ⟨fun t => ?_, by rw [s.size, hz], s.blk, s.inj, s.rng, s.keep, s.oth, hm⟩
  rcases unpack_slots tp p t with hj | ⟨ht, hc⟩
  · rw [hj]; trivial
  · have := s.env t
    rw [RepS.eq hc] at this ⊢
    rw [h t ht]
    exact this
end Go.Ab
end
