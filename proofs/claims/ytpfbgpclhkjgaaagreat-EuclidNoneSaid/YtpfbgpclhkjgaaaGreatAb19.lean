/- A part of the proof: an evaluator of programs, its soundness, and what it says of the functions in hand. It holds without further conditions. -/
import Derived.Test.YtpfbgpclhkjgaaaGreatAb16
set_option linter.unusedVariables false
set_option linter.unusedSimpArgs false
namespace Go.Ab

/-! ### Only what is read counts -/
theorem opd_congr {e e' : Env} (x : Opd) (h : ∀ t ∈ x.slots, e.get t = e'.get t) : opd e x = opd e' x := by
  cases x with
  | s t => exact h t (by simp [Opd.slots])
  | c x => rfl

theorem opds_congr {e e' : Env} : ∀ (l : List Opd), (∀ t ∈ l.flatMap Opd.slots, e.get t = e'.get t) → l.map (opd e) = l.map (opd e')
  | [], _ => rfl
  | x :: l, h => by
    simp only [List.map_cons]
    rw [opd_congr x fun t ht => h t (by simp [ht]), opds_congr l fun t ht => h t (by rw [List.flatMap_cons]; exact List.mem_append_right _ ht)]

theorem opt_congr {e e' : Env} (x : Option Opd) (h : ∀ t ∈ optSlots x, e.get t = e'.get t) : x.map (opd e) = x.map (opd e') := by
  cases x with
  | none => rfl
  | some x => simp only [Option.map_some]; rw [opd_congr x h]

theorem parts2_congr {e e' : Env} (B L : List Ent) : ∀ (l : List (Nat × Nat × Opd)), (∀ t ∈ l.flatMap (fun p => p.2.2.slots), e.get t = e'.get t) → parts2 B L (opd e) l = parts2 B L (opd e') l
  | [], _ => rfl
  | (o, n, x) :: l, h => by
    simp only [parts2]
    rw [opd_congr x fun t ht => h t (by simp [ht]), parts2_congr B L l fun t ht => h t (by rw [List.flatMap_cons]; exact List.mem_append_right _ ht)]

theorem parts1_congr {e e' : Env} (B L : List Ent) : ∀ (l : List (Nat × Opd)), (∀ t ∈ l.flatMap (fun p => p.2.slots), e.get t = e'.get t) → parts1 B L (opd e) l = parts1 B L (opd e') l
  | [], _ => rfl
  | (o, x) :: l, h => by
    simp only [parts1]
    rw [opd_congr x fun t ht => h t (by simp [ht]), parts1_congr B L l fun t ht => h t (by rw [List.flatMap_cons]; exact List.mem_append_right _ ht)]

theorem evQ_congr {e e' : Env} {call : Disp} {B L : List Ent} (o : IOp) (h : ∀ t ∈ o.slots, e.get t = e'.get t) : evQ call o (opd e) B L = evQ call o (opd e') B L := by
  have one : ∀ x : Opd, (∀ t ∈ x.slots, t ∈ o.slots) → opd e x = opd e' x := fun x hx => opd_congr x fun t ht => h t (hx t ht)
  cases o <;> simp only [IOp.slots] at h one <;> simp only [evQ]
  case build z ps => rw [parts2_congr B L ps h]
  case bsl sz z n ps => rw [parts1_congr B L ps h]
  case slice sz x lo hi mx =>
    rw [one x fun t ht => by simp [ht], opt_congr lo fun t ht => h t (by simp [ht]), opt_congr hi fun t ht => h t (by simp [ht]), opt_congr mx fun t ht => h t (by simp [ht])]
  case mx as => rw [opds_congr as h]
  case mn as => rw [opds_congr as h]
  case mkfn f a b => rw [List.map_append, List.map_append, opds_congr a fun t ht => h t (List.mem_append_left _ ht), opds_congr b fun t ht => h t (List.mem_append_right _ ht)]
  case call f as => rw [one f fun t ht => by simp [ht], opds_congr as fun t ht => h t (List.mem_append_right _ ht)]
  case pick c a b => rw [one c fun t ht => by simp [ht], one a fun t ht => by simp [ht], one b fun t ht => by simp [ht]]
  case bin op k x y => rw [one x fun t ht => by simp [ht], one y fun t ht => by simp [ht]]
  case idxA sz x y => rw [one x fun t ht => by simp [ht], one y fun t ht => by simp [ht]]
  case idxS x y => rw [one x fun t ht => by simp [ht], one y fun t ht => by simp [ht]]
  all_goals first
    | rfl
    | (rename_i x; rw [one x fun t ht => ht])
    | (rename_i x _; rw [one x fun t ht => ht])

theorem evA_congr {e e' : Env} {call : Disp} {B L : List Ent} (o : IOp) (h : ∀ t ∈ o.slots, e.get t = e'.get t) : evA call o (opd e) B L = evA call o (opd e') B L := by
  have one : ∀ x : Opd, (∀ t ∈ x.slots, t ∈ o.slots) → opd e x = opd e' x := fun x hx => opd_congr x fun t ht => h t (hx t ht)
  have q : evQ call o (opd e) B L = evQ call o (opd e') B L := evQ_congr o h
  cases o <;> simp only [evA, q] <;> simp only [IOp.slots] at h one
  case box sz x => rw [one x fun t ht => ht]
  case store sz x y => rw [one x fun t ht => by simp [ht], one y fun t ht => by simp [ht]]
  case mksl sz b z x y => rw [one x fun t ht => by simp [ht], one y fun t ht => by simp [ht]]
  case app sz b x y => rw [one x fun t ht => by simp [ht], one y fun t ht => by simp [ht]]

/-! ### More is known -/
theorem toFVs_mono {B L B2 L2 : List Ent} (h : Less B L B2 L2) : ∀ {ss : List SV} {xs : List FV}, toFVs B L ss = some xs → toFVs B2 L2 ss = some xs
  | [], xs, hx => hx
  | s :: ss, xs, hx => by
    simp only [toFVs, Option.bind_eq_some_iff, Option.map_eq_some_iff] at hx ⊢
    obtain ⟨x, h1, ys, h2, rfl⟩ := hx
    exact ⟨x, toFV_mono h h1, ys, toFVs_mono h h2, rfl⟩

theorem parts2_mono {B L B2 L2 : List Ent} (h : Less B L B2 L2) {g : Look} : ∀ {l : List (Nat × Nat × Opd)} {xs : List (Nat × Nat × FV)}, parts2 B L g l = some xs → parts2 B2 L2 g l = some xs
  | [], xs, hx => hx
  | (o, n, x) :: l, xs, hx => by
    simp only [parts2, Option.bind_eq_some_iff, Option.map_eq_some_iff] at hx ⊢
    obtain ⟨x, h1, ys, h2, rfl⟩ := hx
    exact ⟨x, toFV_mono h h1, ys, parts2_mono h h2, rfl⟩

theorem parts1_mono {B L B2 L2 : List Ent} (h : Less B L B2 L2) {g : Look} : ∀ {l : List (Nat × Opd)} {xs : List (Nat × FV)}, parts1 B L g l = some xs → parts1 B2 L2 g l = some xs
  | [], xs, hx => hx
  | (o, x) :: l, xs, hx => by
    simp only [parts1, Option.bind_eq_some_iff, Option.map_eq_some_iff] at hx ⊢
    obtain ⟨x, h1, ys, h2, rfl⟩ := hx
    exact ⟨x, toFV_mono h h1, ys, parts1_mono h h2, rfl⟩

theorem mkCap_mono {B L B2 L2 : List Ent} (h : Less B L B2 L2) {s : SV} {c : Cap} (hc : mkCap B L s = some c) : mkCap B2 L2 s = some c := by
  unfold mkCap at hc ⊢
  split at hc
  · rename_i id sz
    split at hc
    · rename_i sz' xs he; rw [h.eq he (by simp)]; exact hc
    · rename_i sz' x he; rw [h.eq he (by simp)]; exact hc
    · cases hc
  · obtain ⟨x, hx, rfl⟩ := Option.map_eq_some_iff.1 hc
    rw [toFV_mono h hx]; rfl

theorem mkCaps_mono {B L B2 L2 : List Ent} (h : Less B L B2 L2) : ∀ {ss : List SV} {xs : List Cap}, mkCaps B L ss = some xs → mkCaps B2 L2 ss = some xs
  | [], xs, hx => hx
  | s :: ss, xs, hx => by
    simp only [mkCaps, Option.bind_eq_some_iff, Option.map_eq_some_iff] at hx ⊢
    obtain ⟨x, h1, ys, h2, rfl⟩ := hx
    exact ⟨x, mkCap_mono h h1, ys, mkCaps_mono h h2, rfl⟩

theorem evQ_mono {B L B2 L2 : List Ent} (h : Less B L B2 L2) {g : Look} {call : Disp} {o : IOp} {s : SV} (hs : evQ call o g B L = some s) : evQ call o g B2 L2 = some s := by
  cases o <;> simp only [evQ] at hs ⊢ <;> try exact hs
  case build z ps =>
    obtain ⟨xs, h1, h2⟩ := Option.bind_eq_some_iff.1 hs
    rw [parts2_mono h h1]; exact h2
  case bsl sz z n ps =>
    split at hs
    · rename_i hc
      rw [if_pos hc]
      obtain ⟨xs, h1, h2⟩ := Option.bind_eq_some_iff.1 hs
      rw [parts1_mono h h1]; exact h2
    · cases hs
  case load ag sz x =>
    split at hs
    · rename_i y hy; exact hs
    · rename_i id sz' i c hy
      split at hs
      · rename_i sz2 xs he; simp only [h.eq he (by simp)]; exact hs
      · rename_i sz2 xs he; simp only [h.eq he (by simp)]; exact hs
      · cases hs
    · cases hs
  case mkfn f a b =>
    obtain ⟨ys, h3, h4⟩ := Option.map_eq_some_iff.1 hs
    rw [mkCaps_mono h h3]; exact congrArg some h4
  case call f as =>
    split at hs
    · rename_i n first caps hg
      obtain ⟨xs, h1, h2⟩ := Option.bind_eq_some_iff.1 hs
      simp only [toFVs_mono h h1]; exact h2
    · cases hs

/-! ### What an operation leaves as it is -/
theorem ent_push_old {B L : List Ent} (e : Ent) {id : Id} (hv : id.valid B L) : ent B (L ++ [e]) id = ent B L id := by
  rw [ent_push]
  split
  · rename_i h; subst h; simp [Id.valid] at hv
  · rfl

theorem evA_ents {call : Disp} {o : IOp} {g : Look} {B L : List Ent} {v : SV} {B' L' : List Ent} (h : evA call o g B L = some (v, B', L')) :
    B'.length = B.length ∧ L.length ≤ L'.length ∧ ∀ id, id.valid B L → (ent B L id).isOwn = false ∨ o.turns = false → ent B' L' id = ent B L id := by
  have quiet : ((evQ call o g B L).map fun s => (s, B, L)) = some (v, B', L') → B'.length = B.length ∧ L.length ≤ L'.length ∧ ∀ id, id.valid B L → (ent B L id).isOwn = false ∨ o.turns = false → ent B' L' id = ent B L id := by
    intro h
    obtain ⟨s', hs, he⟩ := Option.map_eq_some_iff.1 h
    simp only [Prod.mk.injEq] at he
    obtain ⟨rfl, rfl, rfl⟩ := he
    exact ⟨rfl, Nat.le_refl _, fun _ _ _ => rfl⟩
  have push : ∀ (e : Ent), B' = B → L' = L ++ [e] → B'.length = B.length ∧ L.length ≤ L'.length ∧ ∀ id, id.valid B L → (ent B L id).isOwn = false ∨ o.turns = false → ent B' L' id = ent B L id := by
    rintro e rfl rfl
    exact ⟨rfl, by simp, fun id hv _ => ent_push_old e hv⟩
  cases o <;> simp only [evA] at h <;> try exact quiet h
  case alloc sz z =>
    split at h
    · simp only [Option.some.injEq, Prod.mk.injEq] at h; exact push _ h.2.1.symm h.2.2.symm
    · cases h
  case box sz x =>
    obtain ⟨y, hy, h⟩ := Option.bind_eq_some_iff.1 h
    split at h
    · simp only [Option.some.injEq, Prod.mk.injEq] at h; exact push _ h.2.1.symm h.2.2.symm
    · cases h
  case mksl sz b z n c =>
    split at h
    · split at h
      · simp only [Option.some.injEq, Prod.mk.injEq] at h; exact push _ h.2.1.symm h.2.2.symm
      · cases h
    · cases h
  case store sz a x =>
    split at h
    · rename_i id sz' i c hg
      split at h
      · rename_i sz2 xs he
        split at h
        · obtain ⟨y, hy, h⟩ := Option.bind_eq_some_iff.1 h
          split at h
          · obtain ⟨e, h1, h⟩ := Option.bind_eq_some_iff.1 h
            obtain ⟨e', h2, h⟩ := Option.map_eq_some_iff.1 h
            simp only [Prod.mk.injEq] at h
            obtain ⟨_, rfl, rfl⟩ := h
            obtain ⟨l1, l2⟩ := setE_length id (.own sz2 (xs.set i e')) B L
            refine ⟨l1, Nat.le_of_eq l2.symm, fun k hk hc => ?_⟩
            rw [ent_setE _ _ _ _ (own_valid (by rw [he]; rfl))]
            split
            · rename_i e; subst e
              rcases hc with hc | hc
              · rw [he] at hc; simp [Ent.isOwn] at hc
              · simp [IOp.turns] at hc
            · rfl
          · cases h
        · cases h
      · cases h
    · cases h
  case app sz b x y =>
    obtain ⟨ys, hy, h⟩ := Option.bind_eq_some_iff.1 h
    split at h
    · split at h
      · simp only [Option.some.injEq, Prod.mk.injEq] at h
        obtain ⟨_, rfl, rfl⟩ := h
        exact ⟨rfl, Nat.le_refl _, fun _ _ _ => rfl⟩
      · split at h
        · simp only [Option.some.injEq, Prod.mk.injEq] at h; exact push _ h.2.1.symm h.2.2.symm
        · cases h
    · split at h
      · simp only [Option.some.injEq, Prod.mk.injEq] at h
        obtain ⟨_, rfl, rfl⟩ := h
        exact ⟨rfl, Nat.le_refl _, fun _ _ _ => rfl⟩
      · split at h
        · simp only [Option.some.injEq, Prod.mk.injEq] at h; exact push _ h.2.1.symm h.2.2.symm
        · cases h
    · rename_i id sz' n hg
      split at h
      · rename_i sz2 xs he
        split at h
        · simp only [Option.some.injEq, Prod.mk.injEq] at h
          obtain ⟨_, rfl, rfl⟩ := h
          obtain ⟨l1, l2⟩ := setE_length id .dead B L
          refine ⟨l1, by simp [l2], fun k hk hc => ?_⟩
          rw [ent_push_old _ (by cases k <;> simp only [Id.valid] at hk ⊢ <;> omega), ent_setE _ _ _ _ (own_valid (by rw [he]; rfl))]
          split
          · rename_i e; subst e
            rcases hc with hc | hc
            · rw [he] at hc; simp [Ent.isOwn] at hc
            · simp [IOp.turns] at hc
          · rfl
        · cases h
      · cases h
    · cases h

theorem evA_quiet {call : Disp} {o : IOp} {g : Look} {B L : List Ent} {v : SV} {B' L' : List Ent} (h : evA call o g B L = some (v, B', L')) (hq : quietAt o g = true) :
    ∀ id, id.valid B L → ent B' L' id = ent B L id := by
  intro id hv
  have other : o.turns = false → ent B' L' id = ent B L id := fun ht => (evA_ents h).2.2 id hv (.inr ht)
  cases o <;> simp only [quietAt] at hq <;> try exact other (by simpa using hq)
  case app sz b x y =>
    simp only [evA] at h
    obtain ⟨ys, hy, h⟩ := Option.bind_eq_some_iff.1 h
    split at h
    · split at h
      · simp only [Option.some.injEq, Prod.mk.injEq] at h
        obtain ⟨_, rfl, rfl⟩ := h; rfl
      · split at h
        · simp only [Option.some.injEq, Prod.mk.injEq] at h
          obtain ⟨_, rfl, rfl⟩ := h
          exact ent_push_old _ hv
        · cases h
    · split at h
      · simp only [Option.some.injEq, Prod.mk.injEq] at h
        obtain ⟨_, rfl, rfl⟩ := h; rfl
      · split at h
        · simp only [Option.some.injEq, Prod.mk.injEq] at h
          obtain ⟨_, rfl, rfl⟩ := h
          exact ent_push_old _ hv
        · cases h
    · rename_i id' sz' n hg
      rw [hg] at hq; cases hq
    · cases h
/-- Which rows a step may turn. -/
def tgtOf (o : IOp) (g : Look) : List Id :=
  match o with
  | .store _ a _ => (g a).ids
  | .app _ _ x _ => (g x).ids
  | _ => []

theorem evA_tgt {call : Disp} {o : IOp} {g : Look} {B L : List Ent} {v : SV} {B' L' : List Ent} (h : evA call o g B L = some (v, B', L')) {id : Id} (hv : id.valid B L) (hn : id ∉ tgtOf o g) : ent B' L' id = ent B L id := by
  have other : o.turns = false → ent B' L' id = ent B L id := fun ht => (evA_ents h).2.2 id hv (.inr ht)
  cases o <;> try exact other rfl
  case store sz a x =>
    simp only [tgtOf] at hn
    simp only [evA] at h
    split at h
    · rename_i id' sz' i c hg
      rw [hg] at hn
      split at h
      · rename_i sz2 xs he
        split at h
        · obtain ⟨y, hy, h⟩ := Option.bind_eq_some_iff.1 h
          split at h
          · obtain ⟨e, h1, h⟩ := Option.bind_eq_some_iff.1 h
            obtain ⟨e', h2, h⟩ := Option.map_eq_some_iff.1 h
            simp only [Prod.mk.injEq] at h
            obtain ⟨_, rfl, rfl⟩ := h
            rw [ent_setE _ _ _ _ (own_valid (by rw [he]; rfl)), if_neg (by simpa [SV.ids] using hn)]
          · cases h
        · cases h
      · cases h
    · cases h
  case app sz b x y =>
    simp only [tgtOf] at hn
    cases hg : g x with
    | fv z => exact evA_quiet h (by simp [quietAt, hg]) id hv
    | unk => simp only [evA, hg] at h; obtain ⟨_, _, h⟩ := Option.bind_eq_some_iff.1 h; cases h
    | ptr i a b c => simp only [evA, hg] at h; obtain ⟨_, _, h⟩ := Option.bind_eq_some_iff.1 h; cases h
    | clo f n cs => simp only [evA, hg] at h; obtain ⟨_, _, h⟩ := Option.bind_eq_some_iff.1 h; cases h
    | ref id' sz' off n ap =>
      rw [hg] at hn
      simp only [evA, hg] at h
      obtain ⟨ys, hy, h⟩ := Option.bind_eq_some_iff.1 h
      split at h
      all_goals try (rename_i e; cases e; done)
      · rename_i id2 sz2 n2 e
        injection e with e1 e2 e3 e4 e5
        subst e1
        split at h
        · rename_i sz3 xs he
          split at h
          · simp only [Option.some.injEq, Prod.mk.injEq] at h
            obtain ⟨_, rfl, rfl⟩ := h
            obtain ⟨l1, l2⟩ := setE_length id' .dead B L
            rw [ent_push_old _ (by cases id <;> simp only [Id.valid] at hv ⊢ <;> omega), ent_setE _ _ _ _ (own_valid (by rw [he]; rfl)), if_neg (by simpa [SV.ids] using hn)]
          · cases h
        · cases h
      · cases h
end Go.Ab
