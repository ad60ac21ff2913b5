/- Cam, part E: composing and taking apart, addresses, slices. -/
import Derived.Test.YtiagdfbhagiigaaGreatCamD
namespace Cam
open Go
variable {X : Type} [AbsRep X] {P : Program}

theorem fold_laid : ∀ (l : List Value) (off : Nat) (cs : Array Value) (j : Nat), off + j + l.length ≤ cs.size →
    ((l.zipIdx j).foldl (fun (cs : Array Value) (p : Value × Nat) => cs.setIfInBounds (off + p.2) p.1) cs).toList = laid cs.toList (off + j) l
  | [], off, cs, j, h => by simp [laid]
  | v :: l, off, cs, j, h => by
    have ih := fold_laid l off (cs.setIfInBounds (off + j) v) (j + 1) (by simp at h ⊢; omega)
    simp only [List.zipIdx_cons, List.foldl_cons]
    rw [ih]
    have := seg_step cs.toList (off + j) v l (by simp at h ⊢; omega)
    simpa [laid, Array.toList_setIfInBounds, Nat.add_assoc] using this

def fillS (place : Nat → Option (Nat × Nat)) (cells : List SV) : List (Nat × SV) → Option (List SV)
  | [] => some cells
  | (i, x) :: rest => match place i with
    | none => none
    | some (off, size) => if x.cells.length = size ∧ off + size ≤ cells.length then fillS place (laid cells off x.cells) rest else none

inductive RP (E : Env) : List (Nat × SV) → List (Nat × Value) → Prop
  | nil : RP E [] []
  | cons {i : Nat} {x : SV} {v : Value} {l : List (Nat × SV)} {l' : List (Nat × Value)} (h : R E x v) (hl : RP E l l') : RP E ((i, x) :: l) ((i, v) :: l')

theorem fillS_ok {E : Env} {place : Nat → Option (Nat × Nat)} : ∀ {ps : List (Nat × SV)} {ps' : List (Nat × Value)} {cells r : List SV} {cells' : List Value},
    RP E ps ps' → RL E cells cells' → fillS place cells ps = some r → ∃ r', Instr.fill place cells'.toArray ps' = some r'.toArray ∧ RL E r r'
  | _, _, cells, r, cells', .nil, hc, h => by simp [fillS] at h; subst h; exact ⟨cells', rfl, hc⟩
  | (i, x) :: ps, (_, v) :: ps', cells, r, cells', .cons hx hp, hc, h => by
    simp only [fillS] at h
    split at h
    · cases h
    · rename_i off size hpl
      split at h
      · rename_i hcond
        have hvl := (SV.cells_eq hx).length
        have hcl := hc.length
        have hlen : v.cells.toList.length = v.cells.size := by simp
        obtain ⟨r', h1, h2⟩ := fillS_ok hp (hc.laid (SV.cells_eq hx) off) h
        refine ⟨r', ?_, h2⟩
        simp only [Instr.fill, hpl]
        rw [if_neg (by simp; omega)]
        rw [← h1]
        congr 1
        apply Array.ext'
        have := fold_laid v.cells.toList off cells'.toArray 0 (by simp; omega)
        rw [← Array.foldl_toList, Array.toList_zipIdx]
        simpa using this
      · cases h

def placesS (cfg : Cfg P) : List Field → Option (List (Nat × Nat))
  | [] => some []
  | f :: l => match cfg.I f.type, placesS cfg l with
    | some i, some r => some ((f.offset, i.size) :: r)
    | _, _ => none

theorem placesS_ok (cfg : Cfg P) (w : World) : ∀ {l : List Field} {r : List (Nat × Nat)}, placesS cfg l = some r →
    (l.mapM (fun f => Prod.mk f.offset <$> Go.sizeOf f.type)).run P w = .ok r w
  | [], r, h => by simp [placesS] at h; subst h; simp
  | f :: l, r, h => by
    simp only [placesS] at h
    split at h
    · rename_i i r' hi hr
      cases h
      have ih := placesS_ok cfg w hr
      simp [List.mapM_cons, cfg.run_size hi, ih]
    · cases h

def vbuild (cfg : Cfg P) (t : TypeId) (parts : List (Nat × SV)) : Option SV :=
  match cfg.I t, cfg.U t with
  | some i, some (.struct fields) => (match placesS cfg fields.toList with
    | some ps => (match fillS (ps[·]?) (SV.sc i.zero).cells parts with | some r => some (.agg r) | none => none)
    | none => none)
  | some i, some (.array _ elem) => (match cfg.I elem with
    | some ie => (match fillS (fun k => some (k * ie.size, ie.size)) (SV.sc i.zero).cells parts with | some r => some (.agg r) | none => none)
    | none => none)
  | _, _ => none

theorem vbuild_ok (cfg : Cfg P) {E : Env} {w : World} {t : TypeId} {parts : List (Nat × SV)} {parts' : Array (Nat × Value)} {y : SV} (hp : RP E parts parts'.toList) (h : vbuild cfg t parts = some y) :
    ∃ v, (Instr.build t parts').run P w = .ok v w ∧ R E y v := by
  unfold vbuild at h
  split at h
  · rename_i i fields hi hu
    have hz := cfg.run_zero hi w
    have hcz := SV.cells_eq (R.sc (E := E) i.zero)
    split at h
    · rename_i ps hps
      split at h
      · rename_i r hr
        cases h
        obtain ⟨r', h1, h2⟩ := fillS_ok hp hcz hr
        refine ⟨.agg r'.toArray, ?_, .agg h2⟩
        have h3 := placesS_ok cfg w hps
        simp at h1
        simp [Instr.build, hz, run_und (cfg.hU hu), Array.mapM_eq_mapM_toList, h3, h1]
      · cases h
    · cases h
  · rename_i i n elem hi hu
    have hz := cfg.run_zero hi w
    have hcz := SV.cells_eq (R.sc (E := E) i.zero)
    split at h
    · rename_i ie hie
      split at h
      · rename_i r hr
        cases h
        obtain ⟨r', h1, h2⟩ := fillS_ok hp hcz hr
        refine ⟨.agg r'.toArray, ?_, .agg h2⟩
        simp at h1
        simp [Instr.build, hz, run_und (cfg.hU hu), cfg.run_size hie, h1]
      · cases h
    · cases h
  · cases h

def zeroRow (zero : List Value) (n : Nat) : List Value := (List.range n).map fun i => (zero[i % zero.length]?).getD default

def vbuildSlice (cfg : Cfg P) (h : CHeap X) (t : TypeId) (len : Nat) (parts : List (Nat × SV)) : Option (SV × CHeap X) :=
  match cfg.U t with
  | some (.slice elem) => (match cfg.I elem with
    | some ie => if len * ie.size ≤ 2 ^ 24 then (match fillS (fun k => some (k * ie.size, ie.size)) ((zeroRow ie.zero.cells.toList (len * ie.size)).map .sc) parts with
        | some r => some (.sl h.next 0 len ie.size len true, h.push (.cells r false elem))
        | none => none) else none
    | none => none)
  | _ => none

theorem zeroRow_eq (z : Array Value) (n : Nat) : ((Array.range n).map (z[· % z.size]!)).toList = zeroRow z.toList n := by
  simp only [zeroRow, Array.toList_map, Array.toList_range, Array.length_toList]
  apply List.map_congr_left
  intro i _
  simp [getElem!_def, Array.getElem?_toList]
  cases z[i % z.size]? <;> rfl

theorem zeroRow_length (z : List Value) (n : Nat) : (zeroRow z n).length = n := by simp [zeroRow]

theorem fillS_length {place : Nat → Option (Nat × Nat)} : ∀ {ps : List (Nat × SV)} {cells r : List SV}, fillS place cells ps = some r → r.length = cells.length
  | [], cells, r, h => by simp [fillS] at h; rw [h]
  | (i, x) :: ps, cells, r, h => by
    simp only [fillS] at h
    split at h
    · cases h
    · split at h
      · rename_i hc; rw [fillS_length h, laid_length _ _ _ (by omega)]
      · cases h

theorem vbuildSlice_ok (cfg : Cfg P) {E : Env} {own : Own} {h h' : CHeap X} {w : World} (e : Emb E own h w) {t : TypeId} {len : Nat} {parts : List (Nat × SV)} {parts' : Array (Nat × Value)} {y : SV}
    (hp : RP E parts parts'.toList) (hy : vbuildSlice cfg h t len parts = some (y, h')) :
    ∃ v E' own' w', (Instr.buildSlice t len parts').run P w = .ok v w' ∧ Emb E' own' h' w' ∧ Tran E own h w E' own' h' w' ∧ R E' y v := by
  unfold vbuildSlice at hy
  split at hy
  · rename_i elem hu
    split at hy
    · rename_i ie hie
      split at hy
      · rename_i hle
        split at hy
        · rename_i r hr
          cases hy
          have hz := cfg.run_zero hie w
          have hsc := RL.scs E (zeroRow ie.zero.cells.toList (len * ie.size))
          obtain ⟨r', h1, h2⟩ := fillS_ok hp hsc hr
          have hlr : r.length = len * ie.size := by rw [fillS_length hr]; simp [zeroRow_length]
          have hlr' := h2.length
          obtain ⟨E', own', e', tr, hn⟩ := new_cells e h2 elem [] false (fun _ => rfl) w rfl rfl rfl rfl
          refine ⟨.slice (some ⟨w.heap.size, 0, none⟩) len len, E', own', _, ?_, e', tr, ?_⟩
          · simp only [Instr.buildSlice, Sem.run_bind, run_und (cfg.hU hu), Result.andThen_ok, cfg.run_size hie]
            rw [if_neg (by omega)]
            by_cases h0 : len * ie.size = 0
            · simp [h0, zeroRow] at h1
              have hr0 : (Array.map (fun (_ : Nat) => (default : Value)) (Array.range 0)) = #[] := by simp [Array.range]
              simp [h0, hr0, h1, newRow]
            · have hcells := zeroRow_eq ie.zero.cells (len * ie.size)
              have hcells' : (Array.map (fun x => ie.zero.cells[x % ie.zero.cells.size]!) (Array.range (len * ie.size))) = (zeroRow ie.zero.cells.toList (len * ie.size)).toArray := by
                apply Array.ext'; rw [hcells]
              simp [h0, hz, hcells', h1, newRow]
          · have := R.sl (E := E') (n := h.next) (off := 0) (len := len) (esz := ie.size) (cmin := len) (exact := true) (c := len) hn ⟨Nat.le_refl _, Nat.le_refl _⟩ (by simp; omega) (fun _ => rfl)
            simpa using this
        · cases hy
      · cases hy
    · cases hy
  · cases hy

/-! ### parts -/
def partS (cfg : Cfg P) (t : TypeId) (cs : List SV) (off : Nat) : Option SV :=
  match cfg.I t with
  | some i => if i.row then some (.agg ((cs.drop off).take i.size)) else cs[off]?
  | none => none

theorem partS_ok (cfg : Cfg P) {E : Env} {w : World} {t : TypeId} {cs : List SV} {cs' : List Value} {off : Nat} {y : SV} (hc : RL E cs cs') (h : partS cfg t cs off = some y) :
    ∃ v, (part t cs'.toArray off).run P w = .ok v w ∧ R E y v := by
  unfold partS at h
  split at h
  · rename_i i hi
    have hag := cfg.run_isAgg hi w
    split at h
    · rename_i hrow
      cases h
      refine ⟨.agg ((cs'.drop off).take i.size).toArray, ?_, .agg ((hc.drop off).take _)⟩
      simp only [part, Sem.run_bind, hag, Result.andThen_ok, hrow, if_true, cfg.run_size hi, Sem.run_pure]
      congr 2
      apply Array.ext'
      simp only [Array.toList_extract, List.extract_eq_take_drop, Nat.add_sub_cancel_left]
    · rename_i hrow
      obtain ⟨v, hv, hr⟩ := hc.get h
      exact ⟨v, by simp [part, hag, hrow, hv], hr⟩
  · cases h

def vfield (cfg : Cfg P) (t : TypeId) (x : SV) (k : Nat) : Option SV :=
  match cfg.U t, x.agg? with
  | some (.struct fields), some cs => (match fields[k]? with | some f => partS cfg f.type cs f.offset | none => none)
  | _, _ => none

theorem vfield_ok (cfg : Cfg P) {E : Env} {w : World} {t : TypeId} {x y : SV} {k : Nat} {v : Value} (hx : R E x v) (h : vfield cfg t x k = some y) :
    ∃ u, (Instr.field t v k).run P w = .ok u w ∧ R E y u := by
  unfold vfield at h
  split at h
  · rename_i fields cs hu ha
    split at h
    · rename_i f hf
      obtain ⟨l', rfl, hl⟩ := SV.agg_eq ha hx
      obtain ⟨u, h1, h2⟩ := partS_ok cfg (w := w) hl h
      exact ⟨u, by simp [Instr.field, run_und (cfg.hU hu), hf, asAgg, h1], h2⟩
    · cases h
  · cases h

def vfieldAddr (cfg : Cfg P) (t : TypeId) (k : Nat) : SV → Option SV
  | .ptr n off => match cfg.U t with
    | some (.struct fields) => (match fields[k]? with
      | some f => (match cfg.I f.type with | some i => if i.size = 0 then none else some (.ptr n (off + f.offset)) | none => none)
      | none => none)
    | _ => none
  | _ => none

theorem vfieldAddr_ok (cfg : Cfg P) {E : Env} {w : World} {t : TypeId} {x y : SV} {k : Nat} {v : Value} (hx : R E x v) (h : vfieldAddr cfg t k x = some y) :
    ∃ u, (Instr.fieldAt t v k).run P w = .ok u w ∧ R E y u := by
  cases hx with
  | @ptr n off nb hn =>
    simp only [vfieldAddr] at h
    split at h
    · rename_i fields hu
      split at h
      · rename_i f hf
        split at h
        · rename_i i hi
          split at h
          · cases h
          · rename_i hs
            cases h
            refine ⟨.pointer (some ⟨nb.block, nb.base + (off + f.offset), none⟩), ?_, .ptr hn⟩
            simp [Instr.fieldAt, run_und (cfg.hU hu), hf, Instr.sureAddr, fieldPlace, cfg.run_size hi, hs, addr_add, Nat.add_assoc]
        · cases h
      · cases h
    · cases h
  | _ => simp [vfieldAddr] at h

def vindexAddr (cfg : Cfg P) (t : TypeId) (x ix : SV) : Option SV :=
  match cfg.U t, x, svInt ix with
  | some (.array len elem), .ptr n off, some i => (match cfg.I elem with
    | some ie => if 0 ≤ i ∧ i < len then some (.ptr n (off + i.toNat * ie.size)) else none
    | none => none)
  | some (.slice elem), .sl n off len esz _ _, some i => (match cfg.I elem with
    | some ie => if 0 ≤ i ∧ i < len ∧ ie.size = esz then some (.ptr n (off + i.toNat * esz)) else none
    | none => none)
  | _, _, _ => none

theorem vindexAddr_ok (cfg : Cfg P) {E : Env} {w : World} {t : TypeId} {x ix y : SV} {v j : Value} (hx : R E x v) (hj : R E ix j) (h : vindexAddr cfg t x ix = some y) :
    ∃ u, (Instr.indexAt t v j).run P w = .ok u w ∧ R E y u := by
  unfold vindexAddr at h
  split at h
  · rename_i len elem n off i hu hi
    obtain ⟨k, rfl⟩ := svInt_ok hi hj
    split at h
    · rename_i ie hie
      split at h
      · rename_i hb
        cases h
        cases hx with
        | @ptr _ _ nb hn =>
          refine ⟨.pointer (some ⟨nb.block, nb.base + (off + i.toNat * ie.size), none⟩), ?_, .ptr hn⟩
          simp [Instr.indexAt, run_und (cfg.hU hu), asIntOf, Instr.sureAddr, hb, cfg.run_size hie, addr_add, Nat.add_assoc]
      · cases h
    · cases h
  · rename_i elem n off len esz cmin ex i hu hi
    obtain ⟨k, rfl⟩ := svInt_ok hi hj
    split at h
    · rename_i ie hie
      split at h
      · rename_i hb
        obtain ⟨h1, h2, rfl⟩ := hb
        cases h
        cases hx with
        | @sl _ _ _ _ _ _ nb c hn _ _ _ =>
          refine ⟨.pointer (some ⟨nb.block, nb.base + (off + i.toNat * ie.size), none⟩), ?_, .ptr hn⟩
          simp [Instr.indexAt, run_und (cfg.hU hu), asIntOf, h1, h2, cfg.run_size hie, addr_add, Nat.add_assoc]
      · cases h
    · cases h
  · cases h

def vindex (cfg : Cfg P) (t : TypeId) (x ix : SV) : Option SV :=
  match cfg.U t, svInt ix with
  | some (.array len elem), some i => (match cfg.I elem, x.agg? with
    | some ie, some cs => if 0 ≤ i ∧ i < len then partS cfg elem cs (i.toNat * ie.size) else none
    | _, _ => none)
  | some .string, some i => (match x with
    | .sc (.string s) => if 0 ≤ i then (match s[i.toNat]? with | some b => some (.sc (.int .u8 b.toNat)) | none => none) else none
    | _ => none)
  | _, _ => none

theorem vindex_ok (cfg : Cfg P) {E : Env} {w : World} {t : TypeId} {x ix y : SV} {v j : Value} (hx : R E x v) (hj : R E ix j) (h : vindex cfg t x ix = some y) :
    ∃ u, (Instr.index t v j).run P w = .ok u w ∧ R E y u := by
  unfold vindex at h
  split at h
  · rename_i len elem i hu hi
    obtain ⟨k, rfl⟩ := svInt_ok hi hj
    split at h
    · rename_i ie cs hie ha
      split at h
      · rename_i hb
        obtain ⟨l', rfl, hl⟩ := SV.agg_eq ha hx
        obtain ⟨u, h1, h2⟩ := partS_ok cfg (w := w) hl h
        exact ⟨u, by simp [Instr.index, run_und (cfg.hU hu), asIntOf, hb, cfg.run_size hie, h1], h2⟩
      · cases h
    · cases h
  · rename_i i hu hi
    obtain ⟨k, rfl⟩ := svInt_ok hi hj
    split at h
    · rename_i s
      split at h
      · rename_i h0
        split at h
        · rename_i b hb
          cases h
          cases hx
          exact ⟨_, by simp [Instr.index, run_und (cfg.hU hu), asIntOf, h0, hb], .sc _⟩
        · cases h
      · cases h
    · cases h
  · cases h

def vextract (x : SV) (k : Nat) : Option SV := match x.tup? with | some l => l[k]? | none => none
theorem vextract_ok {E : Env} {w : World} {x y : SV} {k : Nat} {v : Value} (hx : R E x v) (h : vextract x k = some y) :
    ∃ u, (Instr.extract v k).run P w = .ok u w ∧ R E y u := by
  unfold vextract at h
  split at h
  · rename_i l hl
    obtain ⟨l', rfl, hr⟩ := SV.tup_eq hl hx
    obtain ⟨u, hu, hr'⟩ := hr.get h
    exact ⟨u, by simp [Instr.extract, hu], hr'⟩
  · cases h

def vmakeInterface (cfg : Cfg P) (t : TypeId) (x : SV) : Option SV :=
  match cfg.U t with
  | some (.interface _) => none
  | some _ => some (.ifc t x)
  | none => none
theorem vmakeInterface_ok (cfg : Cfg P) {E : Env} {w : World} {t : TypeId} {x y : SV} {v : Value} (hx : R E x v) (h : vmakeInterface cfg t x = some y) :
    ∃ u, (Instr.makeInterface t v).run P w = .ok u w ∧ R E y u := by
  unfold vmakeInterface at h
  split at h
  · cases h
  · rename_i d hne hu
    cases h
    refine ⟨_, ?_, .ifc hx⟩
    simp only [Instr.makeInterface, Sem.run_bind, run_und (cfg.hU hu), Result.andThen_ok]
    try cases d <;> first | rfl | exact absurd rfl (hne _)
  · cases h
end Cam
