/- Loads, fields, elements. -/
import Derived.Test.YtegmhhojpngklaaAbOps5
namespace Go.Ab
open Go.RowKit
variable {C : Ctx} {P : Program}

theorem run_loadAt (ok : CtxOk P C) {t : Nat} (hp : isPtr C t = false) {v : Value} {cs : List Value} (hv : IsVal C t v cs) (hl : cs.length = C.sz t) {w : World} {a : Addr} (h : AtW w a cs) :
    (Instr.loadAt t (.pointer (some a))).run P w = .ok v w := by
  simp [Instr.loadAt, Instr.sureAddr, run_loadVar ok hp hv hl h]

theorem aload_sound (ok : CtxOk P C) {H : View} {ι : Own} {st : St} {w : World} (hH : H.le (World.view w)) (hb : ∀ id, BlkOk C H ι st.sto w id) {t : Nat} {x v : AV} {vx : Value}
    (h : aload C st t x = some v) (r : RepA C H ι st.sto x vx) : ∃ q, (Instr.loadAt t vx).run P w = .ok q w ∧ RepA C H ι st.sto v q := by
  unfold aload at h
  cases hp : isPtr C t with
  | true => simp [hp] at h
  | false =>
  rw [hp, cond_false] at h
  split at h
  · -- a variable that is only read
    rename_i t' u
    by_cases e : t = t'
    · subst e
      simp [nbeq] at h
      subst h
      obtain ⟨a, cs, rfl, h2, h3, h4⟩ := r
      obtain ⟨q, hq⟩ := h4.isVal
      exact ⟨q, run_loadAt ok hp hq (h4.length ok) (h3.world hH), h4.ofU hq⟩
    · simp [nbeq, e] at h
  · rename_i id p
    split at h
    · rename_i t' vs hs
      obtain ⟨g, cur, k1, k2, ⟨ty, k3⟩, k4⟩ := (hb id).box hs
      have r' : RepPb C ι st.sto id p vx := r
      unfold RepPb at r'
      rw [hs] at r'
      obtain ⟨r1, g', r2, rfl⟩ := r'
      rw [k1] at r2
      obtain rfl : g = g' := by simpa using r2
      split at h
      · rename_i fs ht
        simp only [boxTs, ht] at k4
        split at h
        · by_cases e : t = t'
          · subst e
            simp [nbeq] at h
            obtain ⟨us, h1, rfl⟩ := h
            obtain ⟨cs, e1, e2, e3⟩ := k4.flat h1
            have hr : Rep C H t cur.toList (U.ofL false us) := .st cs ht (fun j hj => by simpa [U.ofL, U.get] using e3 j hj) e1
            refine ⟨.agg cur.toList.toArray, run_loadAt ok hp (by simp [IsVal, ht]) (hr.length ok) (atW_block k2 (fun k v e => by simpa [poff] using e)), ?_⟩
            exact ⟨cur.toList, fs, ht, rfl, hr⟩
          · simp [nbeq, e] at h
        · rename_i j p
          obtain ⟨fs', ht', hj, hpath⟩ := r1
          rw [ht] at ht'; cases ht'
          by_cases e : t = ptype C t' (j :: p)
          · simp only [nbeq, e, decide_true, hj, Bool.and_self, cond_true] at h
            obtain ⟨vj, cs, g1, g2, g3, g4, g5⟩ := k4.get hj
            have ef : ftype C t' j = nthN fs j := by simp [ftype, ht]
            have hoff : poff C t' (j :: p) = fieldOff C fs j + poff C (nthN fs j) p := by simp [poff, ht, ef]
            rw [hoff]
            have hcell : AtW w ⟨g, fieldOff C fs j, none⟩ cs := atW_block k2 g5
            unfold fieldOf at h
            cases p with
            | nil =>
              simp only [Option.some.injEq] at h
              subst h
              have et : t = nthN fs j := by rw [e]; simp [ptype, ef]
              subst et
              exact ⟨vj, run_loadAt ok hp g1 g2 (by simpa [poff] using hcell), g3⟩
            | cons i p =>
              simp only at h
              split at h
              · rename_i t2 u hl
                by_cases e2 : nthN fs j = t2
                · simp only [nbeq, e2, decide_true, cond_true, Option.some.injEq] at h
                  subst h
                  have hrep := g4 u (by rw [hl]; rfl)
                  rw [e2] at hrep
                  obtain ⟨cs', q1, q2⟩ := hrep.path ok (p := i :: p) (by rw [← e2]; exact hpath)
                  obtain ⟨q, hq⟩ := q1.isVal
                  have et : t = ptype C t2 (i :: p) := by rw [e]; simp [ptype, ef, e2]
                  subst et
                  rw [e2]
                  exact ⟨q, run_loadAt ok hp hq (q1.length ok) (hcell.sub q2), q1.ofU hq⟩
                · simp [nbeq, e2] at h
              · cases h
          · simp [nbeq, e] at h
      · rename_i hns
        have hts : boxTs C t' = [t'] := by
          unfold boxTs
          split
          · rename_i fs hfs; exact (hns fs hfs).elim
          · rfl
        rw [hts] at k4
        split at h
        · rename_i x
          by_cases e : t = t'
          · subst e
            simp [nbeq] at h
            subst h
            obtain ⟨vj, cs, g1, g2, g3, g4, g5⟩ := k4.get (j := 0) (by simp)
            refine ⟨vj, run_loadAt ok hp g1 g2 (atW_block k2 (fun k v e => by have := g5 k v e; simpa [fieldOff, poff] using this)), g3⟩
          · simp [nbeq, e] at h
        · cases h
    · cases h
  · rename_i id idx p
    split at h
    · rename_i e z xs hs
      obtain ⟨cs, k1, k2, k3, k4⟩ := (hb id).arr hs
      have r' : RepPe C ι st.sto id idx p vx := r
      unfold RepPe at r'
      rw [hs] at r'
      obtain ⟨r1, r2, g, cap, r3, rfl⟩ := r'
      by_cases et : t = ptype C e p
      · simp [nbeq, et] at h
        subst h
        rw [r3] at k1
        obtain ⟨cs', q1, q2⟩ := (k2 idx r2).path ok r1
        obtain ⟨q, hq⟩ := q1.isVal
        subst et
        exact ⟨q, run_loadAt ok hp hq (q1.length ok) ((own_at k1 idx).sub q2), q1.ofU hq⟩
      · simp [nbeq, et] at h
    · cases h
  · cases h

theorem CtxOk.szpos (ok : CtxOk P C) {t : Nat} {ty : Ty} (h : C.te t = some ty) : 0 < C.sz t := by
  by_cases hs : ∃ fs, ty = .st fs
  · obtain ⟨fs, rfl⟩ := hs; exact (ok.sum t fs h).2
  · rw [ok.one t ty h (fun fs e => hs ⟨fs, e⟩)]; omega

/-- the address of a field -/
theorem run_fieldAt (ok : CtxOk P C) {t : Nat} {fs : List Nat} (ht : C.te t = some (.st fs)) {j : Nat} (hj : j < fs.length) (a : Addr) (w : World) :
    (Instr.fieldAt t (.pointer (some a)) j).run P w = .ok (.pointer (some (a.add (fieldOff C fs j)))) w := by
  obtain ⟨f1, f2, f3, _⟩ := ok.fds ht
  have hlen : (P.fieldsOf t).size = fs.length := by rw [← f2]; simp
  have hj' : j < (P.fieldsOf t).size := by omega
  have hg : (P.fieldsOf t)[j]? = some (P.fieldsOf t)[j] := Array.getElem?_eq_getElem hj'
  obtain ⟨ho, _⟩ := f3 j _ hg
  have hty : ((P.fieldsOf t)[j]).type = nthN fs j := by
    rw [nthN_get hj]
    have : fs[j] = ((P.fieldsOf t).toList.map (·.type))[j]'(by simp; omega) := by simp [f2]
    simp [this]
  obtain ⟨ty, h1, h2⟩ := ok.fields t fs (nthN fs j) ht (nthN_mem hj)
  have hsz := ok.sizeOf h1 h2 w
  have hpos := ok.szpos h1
  simp only [Instr.fieldAt, Sem.run_bind, run_und f1, Result.andThen_ok, hg, Instr.sureAddr, Sem.run_pure, fieldPlace, hty, hsz]
  have hne : C.sz (nthN fs j) ≠ 0 := by omega
  simp [hne, ho]

theorem RepSl.at {H : View} {e : Nat} {u : U} {v : Value} (r : RepSl C H e u v) {i : Nat} (hi : i < u.len) :
    ∃ a cap cs, v = .slice (some a) u.len cap ∧ At H (a.add (i * C.sz e)) cs ∧ Rep C H e cs (u.get i) := by
  rcases r with ⟨h1, _⟩ | ⟨a, cap, cs, h1, h2, h3, h4, h5⟩
  · omega
  · exact ⟨a, cap, cs i, h1, h4 i hi, h5 i hi⟩
theorem run_indexAt (ok : CtxOk P C) {t e : Nat} (ht : C.te t = some (.sl e)) {k : IntKind} {n : Int} {a : Addr} {len cap : Nat} (h0 : 0 ≤ n) (h1 : n < len) (w : World) :
    (Instr.indexAt t (.slice (some a) len cap) (.int k n)).run P w = .ok (.pointer (some (a.add (n.toNat * C.sz e)))) w := by
  have hu := ok.und t _ ht
  simp only at hu
  obtain ⟨ty, hty, hn⟩ := ok.elem t e ht
  simp [Instr.indexAt, asIntOf, run_und hu, h0, h1, ok.sizeOf hty hn]

end Go.Ab
