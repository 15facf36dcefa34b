/- the law TopicHolds, joined. -/
import Derived.Test.YtfkbnemhkkbjgaaDoorTopicLawF
namespace Go.Proofs.YtfkbnemhkkbjgaaDoor
open Go Go.RowKit

theorem bc_filter {f : ByteArray} {r : Bool} (hs : f.size ≤ 1048576) (h : filterB f = r) : BC 13 #[.string f] r := fun w hT => by subst h; exact refFilter_any valid_said f w hs hT
theorem bc_cov {f g : ByteArray} {r : Bool} (hf : f.size ≤ 1048576) (hg : g.size ≤ 1048576) (h : covB f g = r) : BC 19 #[.string f, .string g] r := fun w hT => by subst h; exact covers_any indexByte_said valid_said contains_said dollar_said f g w hf hg hT
theorem bc_match {f g : ByteArray} {r : Bool} (hf : f.size ≤ 1048576) (hg : g.size ≤ 1048576) (h : matchB f g = r) : BC 17 #[.string f, .string g] r := fun w hT => by subst h; exact match_any indexByte_said valid_said contains_said dollar_said f g w hf hg hT
theorem bc_meets {f g : ByteArray} {r : Bool} (hf : f.size ≤ 1048576) (hg : g.size ≤ 1048576) (h : (comB f g).isSome = r) : BC 23 #[.string f, .string g] r := fun w hT => by subst h; exact meets_any f g w hf hg hT

theorem topicHolds_any (f g h n : ByteArray) (w : World) (sf : f.size ≤ 1048576) (sg : g.size ≤ 1048576) (sh : h.size ≤ 1048576) (sn : n.size ≤ 1048576) (hT : Tabs w) :
    Calls Tryd.prog 8 #[.string f, .string g, .string h, .string n] w fun e w' => e = .returned (.bool true) ∧ Below w.heap.size w w' := by
  cases hf : filterB f
  · exact topicHolds_a f g h n w hT (bc_filter sf (hf))
  cases hg : filterB g
  · exact topicHolds_b f g h n w hT (bc_filter sf (hf)) (bc_filter sg (hg))
  cases hh : filterB h
  · exact topicHolds_c f g h n w hT (bc_filter sf (hf)) (bc_filter sg (hg)) (bc_filter sh (hh))
  cases hcfg : covB f g
  · exact topicHolds_d f g h n w hT (comB f g).isSome (bc_filter sf (hf)) (bc_filter sg (hg)) (bc_filter sh (hh)) (bc_cov sf sf (holds_refl hf)) (bc_cov sf sg (hcfg)) (bc_meets sf sg (rfl)) (bc_meets sg sf ((holds_symm hf hg)))
  cases hmgn : matchB g n
  · cases hcgh : covB g h
    · cases hegh : (comB g h).isSome
      · exact topicHolds_e000 f g h n w hT (bc_filter sf (hf)) (bc_filter sg (hg)) (bc_filter sh (hh)) (bc_cov sf sf (holds_refl hf)) (bc_cov sf sg (hcfg)) (bc_meets sf sg (holds_meet hf hg hcfg)) (bc_match sg sn (hmgn)) (bc_cov sg sh (hcgh)) (bc_meets sg sh (hegh)) (bc_meets sg sf (((holds_symm hf hg).trans (holds_meet hf hg hcfg))))
      · exact topicHolds_e001 f g h n w hT (bc_filter sf (hf)) (bc_filter sg (hg)) (bc_filter sh (hh)) (bc_cov sf sf (holds_refl hf)) (bc_cov sf sg (hcfg)) (bc_meets sf sg (holds_meet hf hg hcfg)) (bc_match sg sn (hmgn)) (bc_cov sg sh (hcgh)) (bc_meets sg sh (hegh)) (bc_meets sf sh (holds_meets hf hg hh hcfg hegh)) (bc_meets sg sf (((holds_symm hf hg).trans (holds_meet hf hg hcfg))))
    · cases hegh : (comB g h).isSome
      · exact topicHolds_e010 f g h n w hT (bc_filter sf (hf)) (bc_filter sg (hg)) (bc_filter sh (hh)) (bc_cov sf sf (holds_refl hf)) (bc_cov sf sg (hcfg)) (bc_meets sf sg (holds_meet hf hg hcfg)) (bc_match sg sn (hmgn)) (bc_cov sg sh (hcgh)) (bc_cov sf sh (holds_trans hf hh hcfg hcgh)) (bc_meets sg sh (hegh)) (bc_meets sg sf (((holds_symm hf hg).trans (holds_meet hf hg hcfg))))
      · exact topicHolds_e011 f g h n w hT (bc_filter sf (hf)) (bc_filter sg (hg)) (bc_filter sh (hh)) (bc_cov sf sf (holds_refl hf)) (bc_cov sf sg (hcfg)) (bc_meets sf sg (holds_meet hf hg hcfg)) (bc_match sg sn (hmgn)) (bc_cov sg sh (hcgh)) (bc_cov sf sh (holds_trans hf hh hcfg hcgh)) (bc_meets sg sh (hegh)) (bc_meets sf sh (holds_meets hf hg hh hcfg hegh)) (bc_meets sg sf (((holds_symm hf hg).trans (holds_meet hf hg hcfg))))
  · cases hcgh : covB g h
    · cases hegh : (comB g h).isSome
      · exact topicHolds_e100 f g h n w hT (bc_filter sf (hf)) (bc_filter sg (hg)) (bc_filter sh (hh)) (bc_cov sf sf (holds_refl hf)) (bc_cov sf sg (hcfg)) (bc_meets sf sg (holds_meet hf hg hcfg)) (bc_match sg sn (hmgn)) (bc_match sf sn (holds_match hf hcfg hmgn)) (bc_cov sg sh (hcgh)) (bc_meets sg sh (hegh)) (bc_meets sg sf (((holds_symm hf hg).trans (holds_meet hf hg hcfg))))
      · exact topicHolds_e101 f g h n w hT (bc_filter sf (hf)) (bc_filter sg (hg)) (bc_filter sh (hh)) (bc_cov sf sf (holds_refl hf)) (bc_cov sf sg (hcfg)) (bc_meets sf sg (holds_meet hf hg hcfg)) (bc_match sg sn (hmgn)) (bc_match sf sn (holds_match hf hcfg hmgn)) (bc_cov sg sh (hcgh)) (bc_meets sg sh (hegh)) (bc_meets sf sh (holds_meets hf hg hh hcfg hegh)) (bc_meets sg sf (((holds_symm hf hg).trans (holds_meet hf hg hcfg))))
    · cases hegh : (comB g h).isSome
      · exact topicHolds_e110 f g h n w hT (bc_filter sf (hf)) (bc_filter sg (hg)) (bc_filter sh (hh)) (bc_cov sf sf (holds_refl hf)) (bc_cov sf sg (hcfg)) (bc_meets sf sg (holds_meet hf hg hcfg)) (bc_match sg sn (hmgn)) (bc_match sf sn (holds_match hf hcfg hmgn)) (bc_cov sg sh (hcgh)) (bc_cov sf sh (holds_trans hf hh hcfg hcgh)) (bc_meets sg sh (hegh)) (bc_meets sg sf (((holds_symm hf hg).trans (holds_meet hf hg hcfg))))
      · exact topicHolds_e111 f g h n w hT (bc_filter sf (hf)) (bc_filter sg (hg)) (bc_filter sh (hh)) (bc_cov sf sf (holds_refl hf)) (bc_cov sf sg (hcfg)) (bc_meets sf sg (holds_meet hf hg hcfg)) (bc_match sg sn (hmgn)) (bc_match sf sn (holds_match hf hcfg hmgn)) (bc_cov sg sh (hcgh)) (bc_cov sf sh (holds_trans hf hh hcfg hcgh)) (bc_meets sg sh (hegh)) (bc_meets sf sh (holds_meets hf hg hh hcfg hegh)) (bc_meets sg sf (((holds_symm hf hg).trans (holds_meet hf hg hcfg))))
end Go.Proofs.YtfkbnemhkkbjgaaDoor
