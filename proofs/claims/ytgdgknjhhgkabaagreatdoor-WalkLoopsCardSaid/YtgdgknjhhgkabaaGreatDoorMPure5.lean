/- The operations that hang on their operands alone: the rest, and all of them together. -/
import Derived.Test.YtgdgknjhhgkabaaGreatDoorMPure4
set_option linter.unusedVariables false
set_option linter.unusedSimpArgs false
namespace Go.Abs
variable {P : Program} {E : Env} {ρ : Rho}

theorem extract_bytes (s : ByteArray) (l h : Nat) : (s.extract l h).data.toList.map UInt8.toNat = takeC (Nat.sub h l) (dropC l (s.data.toList.map UInt8.toNat)) := by
  rw [takeC_eq, dropC_eq, ByteArray.data_extract, Array.toList_extract, List.extract_eq_take_drop, List.map_take, List.map_drop]
  rfl

theorem optAddr (b off n m l : Nat) : (if m = l then (some (⟨b, off, none⟩ : Addr)) else (some (⟨b, off, none⟩ : Addr)).map (·.add n)) = some ⟨b, bsel (Nat.beq m l) off (Nat.add off n), none⟩ := by
  by_cases e : m = l
  · subst e; simp
  · rw [if_neg e]
    have : Nat.beq m l = false := by cases hb : Nat.beq m l with
      | false => rfl
      | true => exact absurd (Nat.eq_of_beq_eq_true hb) e
    rw [this]; simp [add_eq]

/-- the whole of a slicing of a slice, the bounds given -/
theorem slice_run {t e : Nat} {d : TypeDesc} {te : TypeInfo} {a : Option Addr} {len cap l h m : Nat} {lo hi mx : Option Value} (w : World) (ht : P.underlying t = some d) (hd : d = .slice e) (hte : P.info? e = some te)
    (hb : (Instr.sliceBounds true len cap lo hi mx).run P w = .ok (l, h, m) w) :
    (Instr.sliceAt t (.slice a len cap) lo hi mx).run P w = .ok (.slice (if m = l then a else a.map (·.add (l * te.size))) (h - l) (m - l)) w := by
  subst hd
  simp [Instr.sliceAt, Instr.slice, run_und w ht, hb, run_size w hte]

theorem slGen_run {k kx : Nat → Nat → Nat → Option CV} {len cap : Nat} {lo hi mx : Option TV} {xl xh xm : Option Value} {c : CV} (isS : Bool) (w : World) (h : slGen k kx len cap lo hi mx = some c)
    (hl : ORelV ρ lo xl) (hh : ORelV ρ hi xh) (hm : ORelV ρ mx xm) (hlc : len ≤ cap) :
    (∃ l h', l ≤ h' ∧ h' ≤ cap ∧ xm = none ∧ k l h' cap = some c ∧ (Instr.sliceBounds isS len cap xl xh xm).run P w = .ok (l, h', cap) w ∧ (hi = none → h' = len) ∧
      (∀ cap', cap ≤ cap' → (Instr.sliceBounds isS len cap' xl xh xm).run P w = .ok (l, h', cap') w)) ∨
    (∃ l h' m, l ≤ h' ∧ h' ≤ m ∧ m ≤ cap ∧ kx l h' m = some c ∧ ∀ cap', cap ≤ cap' → (Instr.sliceBounds isS len cap' xl xh xm).run P w = .ok (l, h', m) w) := by
  unfold slGen at h
  cases mx with
  | none =>
    cases xm with
    | some y => exact hm.elim
    | none =>
      left
      have h' : sl2 k len lo hi cap = some c := h
      unfold sl2 at h'
      obtain ⟨h1, hb, h2⟩ := obind_some h'
      obtain ⟨l, lb, h3⟩ := obind_some h2
      have e1 := bnd_run hb hh
      have e2 := bnd_run lb hl
      have a1 : l ≤ h1 := by
        cases lo with
        | none => obtain ⟨rfl, _⟩ := e2; omega
        | some _ => exact e2.1
      have a2 : h1 ≤ cap := by
        cases hi with
        | none => obtain ⟨rfl, _⟩ := e1; exact hlc
        | some _ => exact e1.1
      have run : ∀ cap', cap ≤ cap' → (Instr.sliceBounds isS len cap' xl xh none).run P w = .ok (l, h1, cap') w := by
        intro cap' hc
        cases hi with
        | none =>
          obtain ⟨rfl, rfl⟩ := e1
          cases lo with
          | none => obtain ⟨rfl, rfl⟩ := e2; simp [Instr.sliceBounds]
          | some _ => obtain ⟨a, kk, rfl⟩ := e2; simp [Instr.sliceBounds, sliceBound_run w a]
        | some _ =>
          obtain ⟨a, kk, rfl⟩ := e1
          have a' : h1 ≤ cap' := by omega
          cases lo with
          | none => obtain ⟨rfl, rfl⟩ := e2; simp [Instr.sliceBounds, sliceBound_run w a']
          | some _ => obtain ⟨a2', kk', rfl⟩ := e2; simp [Instr.sliceBounds, sliceBound_run w a', sliceBound_run w a2']
      refine ⟨l, h1, a1, a2, rfl, h3, run cap (Nat.le_refl _), ?_, run⟩
      intro e
      subst e
      exact e1.1
  | some v =>
    cases xm with
    | none => exact hm.elim
    | some y =>
      right
      cases hi with
      | none => cases h
      | some hv =>
        cases xh with
        | none => exact hh.elim
        | some yh =>
          have h' : (obind (bnd (some v) 0 cap) fun m => sl2 kx len lo (some hv) m) = some c := h
          obtain ⟨m, hmm, h1⟩ := obind_some h'
          obtain ⟨l, h2, b1, b2, b3, b4, b5⟩ := sl3_run isS w hmm h1 hl hh hm
          exact ⟨l, h2, m, b1, b2, b3, b4, b5⟩

theorem sliceOp_run (hE : EnvOk P E) {t : Nat} {x c : CV} {lo hi mx : Option TV} {xl xh xm : Option Value} {a : Value} (w : World) (h : sliceOp E t x lo hi mx = some c) (hx : CRel ρ x a)
    (hl : ORelV ρ lo xl) (hh : ORelV ρ hi xh) (hm : ORelV ρ mx xm) :
    ∃ v, (Instr.sliceAt t a xl xh xm).run P w = .ok v w ∧ CRel ρ c v := by
  unfold sliceOp at h
  obtain ⟨ti, hti, hq'⟩ := obind_some h
  clear h
  have h := hq'
  clear hq'
  obtain ⟨⟨i, d, z, hi', hd, hz, hk, -⟩⟩ := hE.types _ _ hti
  generalize hkk : ti.k = k at h hk
  cases k with
  | str =>
    have := ak_str hk; subst this
    cases x with
    | str s =>
      obtain ⟨b, rfl, hb⟩ := hx
      have h' : slStr s lo hi mx = some c := h
      unfold slStr at h'
      cases mx with
      | some v => cases h'
      | none => cases xm with
        | some y => exact hm.elim
        | none =>
          have hs : lenC s = b.size := by rw [lenC_eq, ← hb]; simp
          have h2 : sl2 (fun l h _ => some (.str (takeC (Nat.sub h l) (dropC l s)))) (lenC s) lo hi (lenC s) = some c := h'
          rw [hs] at h2
          obtain ⟨l, h3, b1, b2, b3, b4⟩ := sl2_run (P := P) false w h2 hl hh (Nat.le_refl _)
          cases b3
          refine ⟨.string (b.extract l h3), by simp [Instr.sliceAt, Instr.slice, run_und w hd, b4], _, rfl, ?_⟩
          rw [extract_bytes, hb]
    | _ => cases h
  | sl e =>
    have := ak_sl hk; subst this
    have h' : (obind (E.types e) fun te => slSlice te.size x lo hi mx) = some c := h
    obtain ⟨te, hte, h1⟩ := obind_some h'
    obtain ⟨⟨ie, de, ze, hie, hde, hze, hke, hsz, -⟩⟩ := hE.types _ _ hte
    unfold slSlice at h1
    split at h1
    · cases hx
      rcases slGen_run (P := P) true w h1 hl hh hm (Nat.le_refl _) with ⟨l, h3, b1, b2, rfl, b4, b5, -, -⟩ | ⟨l, h3, m, b1, b2, b3, b4, b5⟩
      · cases b4
        have : l = 0 := by omega
        have : h3 = 0 := by omega
        subst_vars
        exact ⟨_, slice_run w hd rfl hie b5, by simp [CRel]⟩
      · cases b4
        have : l = 0 := by omega
        have : h3 = 0 := by omega
        have : m = 0 := by omega
        subst_vars
        exact ⟨_, slice_run w hd rfl hie (b5 0 (Nat.le_refl _)), by simp [CRel]⟩
    · rename_i id off len cap
      obtain ⟨b, z', hb, rfl, hle⟩ := hx
      rcases slGen_run (P := P) true w h1 hl hh hm hle with ⟨l, h3, b1, b2, rfl, b4, b5, -, -⟩ | ⟨l, h3, m, b1, b2, b3, b4, b5⟩
      · cases b4
        refine ⟨_, slice_run w hd rfl hie b5, b, z', hb, ?_, Nat.sub_le_sub_right b2 l⟩
        rw [optAddr, hsz]; rfl
      · cases b4
        refine ⟨_, slice_run w hd rfl hie (b5 cap (Nat.le_refl _)), b, z', hb, ?_, Nat.sub_le_sub_right b2 l⟩
        rw [optAddr, hsz]; rfl
    · rename_i id off len cap es
      obtain ⟨b, z', cap', hb, rfl, hc, he, hz', hle⟩ := hx
      obtain ⟨hes, h2⟩ := bsel_some h1
      have hes := Nat.eq_of_beq_eq_true hes
      rcases slGen_run (P := P) true w h2 hl hh hm hle with ⟨l, h3, b1, b2, rfl, b4, b5, -, b7⟩ | ⟨l, h3, m, b1, b2, b3, b4, b5⟩
      · have run := slice_run (a := some ⟨b, off, none⟩) w hd rfl hie (b7 cap' hc)
        unfold slRoom at b4
        cases hb' : Nat.blt l cap with
        | true =>
          rw [hb'] at b4
          cases b4
          have hlt : l < cap := Nat.lt_of_succ_le (Nat.le_of_ble_eq_true hb')
          refine ⟨_, run, b, z', cap' - l, hb, ?_, by show Nat.sub cap l ≤ _; have : Nat.sub cap l = cap - l := rfl; omega, he, ?_, Nat.sub_le_sub_right b2 l⟩
          · rw [if_neg (by omega)]
            simp [add_eq, hsz]
          · rw [← hz']
            show off + l * te.size + (cap' - l) * es = off + cap' * es
            rw [← hes, Nat.add_assoc, ← Nat.add_mul]
            congr 2
            omega
        | false =>
          rw [hb'] at b4
          cases b4
          have hge : cap ≤ l := by
            rcases Nat.lt_or_ge l cap with hlt | hge
            · have : Nat.blt l cap = true := Nat.ble_eq_true_of_le hlt
              rw [this] at hb'; cases hb'
            · exact hge
          have : h3 - l = 0 := by omega
          refine ⟨_, run, ?_⟩
          rw [this]
          by_cases e : cap' = l
          · rw [if_pos e]; exact ⟨_, _, rfl⟩
          · rw [if_neg e]; exact ⟨_, _, rfl⟩
      · cases b4
        refine ⟨_, slice_run w hd rfl hie (b5 cap' hc), b, z', hb, ?_, Nat.sub_le_sub_right b2 l⟩
        rw [optAddr, hsz]; rfl
    · cases h1
  | arr n e =>
    have := ak_arr hk; subst this
    cases x with
    | ptr id off =>
      obtain ⟨b, z', hb, rfl⟩ := hx
      have h' : (obind (E.types e) fun te => slGen (slAt te.size id off) (slAt te.size id off) n n lo hi mx) = some c := h
      obtain ⟨te, hte, h1⟩ := obind_some h'
      obtain ⟨⟨ie, de, ze, hie, hde, hze, hke, hsz, -⟩⟩ := hE.types _ _ hte
      have run : ∀ l h3 m, (Instr.sliceBounds false n n xl xh xm).run P w = .ok (l, h3, m) w →
          (Instr.sliceAt t (.pointer (some ⟨b, off, none⟩)) xl xh xm).run P w = .ok (.slice (some (if m = l then ⟨b, off, none⟩ else (⟨b, off, none⟩ : Addr).add (l * ie.size))) (h3 - l) (m - l)) w := by
        intro l h3 m hbb
        simp [Instr.sliceAt, Instr.sureAddr, run_und w hd, hbb, run_size w hie]
      rcases slGen_run (P := P) false w h1 hl hh hm (Nat.le_refl _) with ⟨l, h3, b1, b2, rfl, b4, b5, -, -⟩ | ⟨l, h3, m, b1, b2, b3, b4, b5⟩
      · cases b4
        refine ⟨_, run _ _ _ b5, b, z', hb, ?_, Nat.sub_le_sub_right b2 l⟩
        have := optAddr b off (l * te.size) n l
        rw [hsz]
        by_cases e' : n = l
        · subst e'; simp
        · rw [if_neg e'] at this ⊢
          simp only [Option.map_some, Option.some.injEq] at this
          rw [this]; rfl
      · cases b4
        refine ⟨_, run _ _ _ (b5 n (Nat.le_refl _)), b, z', hb, ?_, Nat.sub_le_sub_right b2 l⟩
        have := optAddr b off (l * te.size) m l
        rw [hsz]
        by_cases e' : m = l
        · subst e'; simp
        · rw [if_neg e'] at this ⊢
          simp only [Option.map_some, Option.some.injEq] at this
          rw [this]; rfl
    | _ => cases h
  | _ => cases h
end Go.Abs
